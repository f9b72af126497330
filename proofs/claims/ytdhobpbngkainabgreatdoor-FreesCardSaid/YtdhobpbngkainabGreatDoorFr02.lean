/- Ours. A part of the proof, made small by a program. -/
import Derived.Test.YtdhobpbngkainabGreatDoorFr01
set_option maxRecDepth 100000
set_option maxHeartbeats 4000000
namespace Go.Proofs.YtdhobpbngkainabGreatDoor
open List
section
open Go.RowKit Go.Maps
structure Ent (κ:Type) where
 key:κ
 val:Value
 born:Nat
section
variable {κ:Type} [DecidableEq κ]
set_option linter.unusedSectionVars false
def dE(enc:κ->Value)(e:Ent κ):MapEntry:=⟨enc e.key,e.val,e.born⟩
def aO(enc:κ->Value)(l:List (Ent κ))(c:Nat):Obj:=.map (l.map (dE enc)).toArray c
def dz(l:List (Ent κ))(k:κ):Option Value:=(l.find? (fun e=>decide (e.key=k))).map (·.val)
def iv(l:List (Ent κ))(k:κ):Bool:=l.any (fun e=>decide (e.key=k))
def rk(l:List (Ent κ))(k:κ)(v:Value):List (Ent κ):=l.map (fun e=>if e.key=k then { e with val:=v } else e)
def gF(l:List (Ent κ))(c:Nat)(k:κ)(v:Value):List (Ent κ):=if iv l k then rk l k v else l++[⟨k,v,c⟩]
def cf(l:List (Ent κ))(c:Nat)(k:κ):Nat:=if iv l k then c else c+1
def yt(l:List (Ent κ))(k:κ):List (Ent κ):=l.filter (fun e => !decide (e.key=k))
structure MapOk (Ok:κ->Prop) (l:List (Ent κ)) (c:Nat):Prop where
 nodup:(l.map (·.key)).Nodup
 borns:(l.map (·.born)).Nodup
 lt:∀e∈l,e.born<c
 ok:∀e∈l,Ok e.key
structure EncOk (P:Program) (k:TypeId) (enc:κ->Value) (Ok:κ->Prop):Prop where
 keyed:Keyed P k
 inj:∀a b,enc a=enc b->a=b
 key:∀a,Ok a->∃l,keyOf P k (enc a)=some l
theorem lr{l:List (Ent κ)}{k:κ}{v:Value}(h:dz l k=some v):∃e∈l,e.key=k/\e.val=v:=by
 unfold dz at h
 cases hf:l.find? (fun e=>decide (e.key=k))with
 | none=>rw[hf]at h;simp at h
 | some e =>
  rw[hf]at h;have h1:=find?_some hf;exact⟨e,mem_of_find?_eq_some hf,by simpa using h1,by simpa using h⟩
theorem gz{l:List (Ent κ)}{k:κ}:dz l k=none↔∀e∈l,e.key≠k:=by
 unfold dz;simp
theorem iw{l:List (Ent κ)}{k:κ}:iv l k=true↔∃e∈l,e.key=k:=by simp[iv]
theorem gM{l:List (Ent κ)}{k:κ}:iv l k=(dz l k).isSome:=by
 cases h:dz l k with
 | none=>rw[gz]at h;simp[iv];exact h
 | some v=>obtain⟨e,h1,h2,_⟩:=lr h;simp[iv];exact⟨e,h1,h2⟩
theorem qV{l:List (Ent κ)}(h:(l.map (·.key)).Nodup){i j:Nat}{a b:Ent κ}(ha:l[i]?=some a)(hb:l[j]?=some b)(hk:a.key=b.key):i=j:=by
 obtain⟨hi,rfl⟩:=List.getElem?_eq_some_iff.1 ha;obtain⟨hj,rfl⟩:=List.getElem?_eq_some_iff.1 hb;have hp:=pairwise_iff_getElem.1 h;rcases Nat.lt_trichotomy i j with hl|hl|hl
 ·exact absurd (by rw[getElem_map,getElem_map];exact hk) (hp i j (by simpa using hi) (by simpa using hj) hl)
 ·exact hl
 ·exact absurd (by rw[getElem_map,getElem_map];exact hk.symm) (hp j i (by simpa using hj) (by simpa using hi) hl)
theorem qe{l:List (Ent κ)}(h:(l.map (·.key)).Nodup){e:Ent κ}(he:e∈l):dz l e.key=some e.val:=by
 cases hg:dz l e.key with
 | none=>exact absurd rfl (gz.1 hg e he)
 | some v =>
  obtain⟨e',h1,h2,h3⟩:=lr hg;obtain⟨i,hi⟩:=mem_iff_getElem?.1 he;obtain⟨j,hj⟩:=mem_iff_getElem?.1 h1;have:=qV h hj hi h2;subst this;rw[hi]at hj
  cases hj
  rw[<- h3]
theorem mR{P:Program}{k:TypeId}{enc:κ->Value}{Ok:κ->Prop}(E:EncOk P k enc Ok){l:List (Ent κ)}{c:Nat}(hm:MapOk Ok l c){x:κ}(hx:Ok x)(w:World):
  ((Instr.findKey k (enc x) (l.map (dE enc))).run P w=.ok none w/\∀e∈l,e.key≠x) \/
  ∃i e,(Instr.findKey k (enc x) (l.map (dE enc))).run P w=.ok (some (i,e.val)) w/\l[i]?=some e/\e.key=x:=by
 obtain⟨lx,hlx⟩:=E.key x hx
 rcases E.keyed.find w hlx (l.map (dE enc)) (fun e he=>by
  obtain⟨e',h1,rfl⟩:=mem_map.1 he;exact E.key e'.key (hm.ok e' h1))with⟨h1,h2⟩|⟨j,e,h1,h2,h3⟩
 ·exact .inl ⟨h1,fun e he hk=>h2 (dE enc e) (mem_map.2 ⟨e,he,rfl⟩) (by rw[<- hk];rfl)⟩
 ·rw[getElem?_map]at h2
  cases hl:l[j]? with
  | none=>rw[hl]at h2;simp at h2
  | some e' =>
   rw[hl]at h2;simp only[Option.map_some,Option.some.injEq]at h2;subst h2;exact .inr ⟨j,e',h1,hl,E.inj _ _ h3⟩
variable {P:Program} {k t ev:TypeId} {enc:κ->Value} {Ok:κ->Prop}
theorem uJ(E:EncOk P k enc Ok)(ht:P.underlying t=some (.map k ev)){w:World}{b:Nat}{l:List (Ent κ)}{c:Nat}(hb:w.heap[b]?=some (aO enc l c))(hm:MapOk Ok l c){z:Value}(hz:(zeroValue ev).run P w=.ok z w){x:κ}(hx:Ok x):
  (Instr.lookup t (.map (some b)) (enc x) false).run P w=.ok ((dz l x).getD z) w:=by
 obtain⟨lx,hlx⟩:=E.key x hx;rcases mR E hm hx w with⟨h1,h2⟩|⟨i,e,h1,h2,h3⟩
 ·rw[gz.2 h2];simp[Instr.lookup,run_underlying ht,MapKept.run_getObj_map hb,E.keyed.check w _ hlx,h1,hz,Result.andThen]
 ·subst h3;rw[qe hm.nodup (mem_of_getElem? h2)];simp[Instr.lookup,run_underlying ht,MapKept.run_getObj_map hb,E.keyed.check w _ hlx,h1,Result.andThen]
theorem uK(E:EncOk P k enc Ok)(ht:P.underlying t=some (.map k ev)){w:World}{b:Nat}{l:List (Ent κ)}{c:Nat}(hb:w.heap[b]?=some (aO enc l c))(hm:MapOk Ok l c){z:Value}(hz:(zeroValue ev).run P w=.ok z w){x:κ}(hx:Ok x):
  (Instr.lookup t (.map (some b)) (enc x) true).run P w=.ok (.tuple #[(dz l x).getD z,.bool (iv l x)]) w:=by
 obtain⟨lx,hlx⟩:=E.key x hx;rw[gM];rcases mR E hm hx w with⟨h1,h2⟩|⟨i,e,h1,h2,h3⟩
 ·rw[gz.2 h2];simp[Instr.lookup,run_underlying ht,MapKept.run_getObj_map hb,E.keyed.check w _ hlx,h1,hz,Result.andThen]
 ·subst h3;rw[qe hm.nodup (mem_of_getElem? h2)];simp[Instr.lookup,run_underlying ht,MapKept.run_getObj_map hb,E.keyed.check w _ hlx,h1,Result.andThen]
open Go.ChangeMaps (setBlock modify_eq_set)
theorem EX{l:List (Ent κ)}(h:(l.map (·.key)).Nodup){i:Nat}{e:Ent κ}(hi:l[i]?=some e)(v:Value):l.set i { e with val:=v }=rk l e.key v:=by
 apply ext_getElem?;intro j;unfold rk;rw[getElem?_set,getElem?_map];by_cases hj:i=j
 ·subst hj;obtain⟨hlt,he⟩:=List.getElem?_eq_some_iff.1 hi;simp[hlt,he]
 ·rw[if_neg hj]
  cases hl:l[j]? with
  | none=>rfl
  | some e' =>
   have:e'.key≠e.key:=fun hk=>hj (qV h hi hl hk.symm)
   simp[this]
theorem Gw(E:EncOk P k enc Ok)(ht:P.underlying t=some (.map k ev)){w:World}{b:Nat}{l:List (Ent κ)}{c:Nat}(hb:w.heap[b]?=some (aO enc l c))(hm:MapOk Ok l c){x:κ}(hx:Ok x)(v:Value):
  (Instr.mapUpdate t (.map (some b)) (enc x) v).run P w=.ok () (setBlock w b (aO enc (gF l c x v) (cf l c x))):=by
 obtain⟨lx,hlx⟩:=E.key x hx;unfold gF cf;rcases mR E hm hx w with⟨h1,h2⟩|⟨i,e,h1,h2,h3⟩
 ·have hh:iv l x=false:=by rw[gM,gz.2 h2];rfl
  simp[hh,Instr.mapUpdate,run_underlying ht,MapKept.run_getObj_map hb,E.keyed.check w false hlx,h1,MapKept.run_setObj_map _ hb,Result.andThen,setBlock,aO,dE]
 ·subst h3;have hh:iv l e.key=true:=iw.2 ⟨e,mem_of_getElem? h2,rfl⟩;have hj:(l.map (dE enc)).toArray[i]?=some (dE enc e):=by simp[h2]
  have hlist:(l.map (dE enc)).modify i (fun e'=>{ e' with key:=enc e.key,val:=v })=(rk l e.key v).map (dE enc):=by
   rw[modify_eq_set _ _ _ (dE enc e) (by simp[h2]),<- EX hm.nodup h2 v,map_set];rfl
  simp[hh,Instr.mapUpdate,run_underlying ht,MapKept.run_getObj_map hb,E.keyed.check w false hlx,h1,h2,dE,E.keyed.stays w hlx,MapKept.run_setObj_map _ hb,Result.andThen,setBlock,aO];rw[<- hlist]
theorem EV{ty:TypeId}(E:EncOk P k enc Ok)(ht:P.underlying t=some (.map k ev)){w:World}{b:Nat}{l:List (Ent κ)}{c:Nat}(hb:w.heap[b]?=some (aO enc l c))(hm:MapOk Ok l c){x:κ}(hx:Ok x):
  (Builtin.delete_ #[t,k] ty #[.map (some b),enc x]).run P w=.ok (.tuple #[]) (setBlock w b (aO enc (yt l x) c)):=by
 obtain⟨lx,hlx⟩:=E.key x hx;unfold yt;rcases mR E hm hx w with⟨h1,h2⟩|⟨i,e,h1,h2,h3⟩
 ·have:l.filter (fun e => !decide (e.key=x))=l:=filter_eq_self.2 (fun e he=>by simp[h2 e he]);rw[this];simp[Builtin.delete_,run_underlying ht,MapKept.run_getObj_map hb,E.keyed.check w _ hlx,h1,MapKept.run_setObj_map _ hb,Result.andThen,setBlock,aO]
 ·subst h3;have hil:i<l.length:=(List.getElem?_eq_some_iff.1 h2).1
  have hlist:(l.map (dE enc)).eraseIdx i=(l.filter (fun e' => !decide (e'.key=e.key))).map (dE enc):=by
   have e1:l.filter (fun e' => !decide (e'.key=e.key))=l.eraseIdx i:=by
    have:=ChangeMaps.filter_eq_eraseIdx (fun e':Ent κ=>decide (e'.key=e.key)) l i e h2 (by simp) (by
     refine(pairwise_map.1 hm.nodup).imp ?_;intro a b hab hk;simp only[decide_eq_true_eq]at hk;exact hab (hk.1.trans hk.2.symm))
    exact this
   rw[e1,ChangeMaps.map_eraseIdx]
  simp[Builtin.delete_,run_underlying ht,MapKept.run_getObj_map hb,E.keyed.check w _ hlx,h1,MapKept.run_setObj_map _ hb,Result.andThen,setBlock,aO];rw[<- hlist]
theorem ww(P:Program)(w:World)(k:IntKind)(n:Int):(asInt (.int k n)).run P w=.ok n w:=rfl
def A7(l:List (Ent κ))(c:Nat)(k:κ)(z:Value):List (Ent κ):=if iv l k then l else l++[⟨k,z,c⟩]
theorem p9{l:List (Ent κ)}(h:(l.map (·.born)).Nodup)(enc:κ->Value){i:Nat}{e:Ent κ}(hi:l[i]?=some e):(l.map (dE enc)).findIdx? (fun e'=>(e'.born:Int)==(e.born:Int))=some i:=by
 obtain⟨hlt,he⟩:=List.getElem?_eq_some_iff.1 hi;rw[findIdx?_eq_some_iff_getElem];refine⟨by simpa using hlt,by simp[dE,he],?_⟩;intro j hj;simp only[getElem_map,dE,beq_iff_eq,Int.natCast_inj];intro hb;have hp:=pairwise_iff_getElem.1 h j i (by simp;omega) (by simpa using hlt) hj;exact hp (by simp[hb,he])
def pN(l:List (Ent κ))(c:Nat)(k:κ):Nat:=match l.find? (fun e=>decide (e.key=k))with|some e=>e.born|none=>c
theorem CR{l:List (Ent κ)}{c:Nat}{k:κ}(h:∀e∈l,e.key≠k):pN l c k=c:=by
 unfold pN;have:l.find? (fun e=>decide (e.key=k))=none:=by rw[find?_eq_none];intro e he;simpa using h e he
 rw[this]
theorem CS{l:List (Ent κ)}{c:Nat}(h:(l.map (·.key)).Nodup){i:Nat}{e:Ent κ}(hi:l[i]?=some e):pN l c e.key=e.born:=by
 unfold pN
 cases hf:l.find? (fun e'=>decide (e'.key=e.key))with
 | none=>rw[find?_eq_none]at hf;exact absurd (hf e (mem_of_getElem? hi)) (by simp)
 | some e' =>
  obtain⟨j,hj⟩:=mem_iff_getElem?.1 (mem_of_find?_eq_some hf);have hk:e'.key=e.key:=by simpa using find?_some hf
  have:=qV h hj hi hk;subst this;rw[hi]at hj
  cases hj
  rfl
theorem xz(E:EncOk P k enc Ok)(ht:P.underlying t=some (.map k ev)){w:World}{b:Nat}{l:List (Ent κ)}{c:Nat}(hb:w.heap[b]?=some (aO enc l c))(hm:MapOk Ok l c){z:Value}(hz:(zeroValue ev).run P w=.ok z w){x:κ}(hx:Ok x):
  (Instr.mapEntry t (.map (some b)) (enc x)).run P w=.ok (.tuple #[(dz l x).getD z,.int .i64 (pN l c x)]) (setBlock w b (aO enc (A7 l c x z) (cf l c x))) /\
   ∀(W:World) (v:Value),W.heap[b]?=some (aO enc (A7 l c x z) (cf l c x))->(Instr.entryStore t (.map (some b)) (.int .i64 (pN l c x)) v).run P W=.ok () (setBlock W b (aO enc (gF l c x v) (cf l c x))):=by
 obtain⟨lx,hlx⟩:=E.key x hx;unfold gF cf A7;rcases mR E hm hx w with⟨h1,h2⟩|⟨i,e,h1,h2,h3⟩
 ·have hh:iv l x=false:=by rw[gM,gz.2 h2];rfl
  rw[gz.2 h2,CR h2];refine⟨?_,?_⟩
  ·simp[hh,Instr.mapEntry,run_underlying ht,MapKept.run_getObj_map hb,E.keyed.check w false hlx,h1,hz,MapKept.run_setObj_map _ hb,Result.andThen,setBlock,aO,dE,goInt]
  ·intro W v hW;simp only[hh]at hW ⊢
   have hn:((l++[(⟨x,z,c⟩:Ent κ)]).map (·.born)).Nodup:=by
    rw[map_append,nodup_append];refine⟨hm.borns,by simp,?_⟩;intro a ha b hb;obtain⟨e,he,rfl⟩:=mem_map.1 ha;simp only[map_cons,map_nil,mem_singleton]at hb;have:=hm.lt e he;omega
   have hf:=p9 hn enc (i:=l.length) (e:=⟨x,z,c⟩) (by simp);have hf2:((l++[(⟨x,z,c⟩:Ent κ)]).map (dE enc)).toArray.findIdx? (fun e'=>(e'.born:Int)==(c:Int))=some l.length:=by simpa using hf
   have hmod:((l++[(⟨x,z,c⟩:Ent κ)]).map (dE enc)).modify l.length (fun e'=>{ e' with val:=v })=(l++[(⟨x,v,c⟩:Ent κ)]).map (dE enc):=by
    rw[modify_eq_set _ _ _ (dE enc ⟨x,z,c⟩) (by simp)];simp[dE]
   have hW2:W.heap[b]?=some (.map ((l++[(⟨x,z,c⟩:Ent κ)]).map (dE enc)).toArray (c+1)):=hW;unfold aO;simp only[Bool.false_eq_true,if_false];rw[<- hmod];unfold Instr.entryStore;simp only[Sem.run_bind,MapKept.run_getObj_map hW2,Result.andThen,ww,hf2];rw[MapKept.run_setObj_map _ hW2];simp[setBlock]
 ·subst h3;have hh:iv l e.key=true:=iw.2 ⟨e,mem_of_getElem? h2,rfl⟩;rw[qe hm.nodup (mem_of_getElem? h2),CS hm.nodup h2];refine⟨?_,?_⟩
  ·have hlist:(l.map (dE enc)).modify i (fun e'=>{ e' with key:=enc e.key })=l.map (dE enc):=by
    rw[modify_eq_set _ _ _ (dE enc e) (by simp[h2])];have:({ dE enc e with key:=enc e.key }:MapEntry)=dE enc e:=rfl;rw[this];apply ext_getElem?;intro j;rw[getElem?_set];by_cases hj:i=j
    ·subst hj;obtain⟨hlt,he⟩:=List.getElem?_eq_some_iff.1 h2;simp[hlt,he]
    ·simp[hj]
   simp[hh,Instr.mapEntry,run_underlying ht,MapKept.run_getObj_map hb,E.keyed.check w false hlx,h1,h2,dE,E.keyed.stays w hlx,MapKept.run_setObj_map _ hb,Result.andThen,setBlock,aO,goInt];rw[hlist]
  ·intro W v hW;simp only[hh,if_true]at hW ⊢;have hf:=p9 hm.borns enc h2;have hf2:(l.map (dE enc)).toArray.findIdx? (fun e'=>(e'.born:Int)==(e.born:Int))=some i:=by simpa using hf
   have hmod:(l.map (dE enc)).modify i (fun e'=>{ e' with val:=v })=(rk l e.key v).map (dE enc):=by
    rw[modify_eq_set _ _ _ (dE enc e) (by simp[h2]),<- EX hm.nodup h2 v,map_set];rfl
   have hW2:W.heap[b]?=some (.map (l.map (dE enc)).toArray c):=hW;unfold aO;rw[<- hmod];unfold Instr.entryStore;simp only[Sem.run_bind,MapKept.run_getObj_map hW2,Result.andThen,ww,hf2];rw[MapKept.run_setObj_map _ hW2];simp[setBlock]
theorem MapOk.put{l:List (Ent κ)}{c:Nat}(h:MapOk Ok l c){x:κ}(hx:Ok x)(v:Value):MapOk Ok (gF l c x v) (cf l c x):=by
 unfold gF cf
 cases hh:iv l x with
 | true =>
  simp only[if_true]
  have hb:(rk l x v).map (·.born)=l.map (·.born):=by
   unfold rk;rw[map_map];apply map_congr_left;intro e _;simp only[Function.comp];split<;>rfl
  have hk:(rk l x v).map (·.key)=l.map (·.key):=by
   unfold rk;rw[map_map];apply map_congr_left;intro e _;simp only[Function.comp];split<;>rfl
  refine⟨hk ▸ h.nodup,hb ▸ h.borns,?_,?_⟩
  ·intro e he;obtain⟨e',h1,rfl⟩:=mem_map.1 he;have:=h.lt e' h1;split<;>exact this
  ·intro e he;obtain⟨e',h1,rfl⟩:=mem_map.1 he;have:=h.ok e' h1;split<;>exact this
 | false =>
  simp only[Bool.false_eq_true,if_false]
  have hn:∀e∈l,e.key≠x:=fun e he hk=>by
   have:=iw.2 ⟨e,he,hk⟩;rw[hh]at this
   cases this
  refine⟨?_,?_,?_,?_⟩
  ·rw[map_append,nodup_append];refine⟨h.nodup,by simp,?_⟩;intro a ha b hb;obtain⟨e,he,rfl⟩:=mem_map.1 ha;simp only[map_cons,map_nil,mem_singleton]at hb;exact hb ▸ hn e he
  ·rw[map_append,nodup_append];refine⟨h.borns,by simp,?_⟩;intro a ha b hb;obtain⟨e,he,rfl⟩:=mem_map.1 ha;simp only[map_cons,map_nil,mem_singleton]at hb;have:=h.lt e he;omega
  ·intro e he;rcases mem_append.1 he with h'|h'
   ·have:=h.lt e h';omega
   ·simp only[mem_singleton]at h';subst h';simp
  ·intro e he;rcases mem_append.1 he with h'|h'
   ·exact h.ok e h'
   ·simp only[mem_singleton]at h';subst h';exact hx
theorem MapOk.del{l:List (Ent κ)}{c:Nat}(h:MapOk Ok l c)(x:κ):MapOk Ok (yt l x) c :=
 ⟨h.nodup.sublist (filter_sublist.map _),h.borns.sublist (filter_sublist.map _),fun e he=>h.lt e (mem_filter.1 he).1,fun e he=>h.ok e (mem_filter.1 he).1⟩
theorem AG{l m:List (Ent κ)}{k:κ}:dz (l++m) k=(dz l k).or (dz m k):=by
 unfold dz;rw[find?_append]
 cases l.find? (fun e=>decide (e.key=k))<;>simp
theorem FR{l:List (Ent κ)}{c:Nat}{x y:κ}{v:Value}:dz (gF l c x v) y=if y=x then some v else dz l y:=by
 unfold gF
 cases hh:iv l x with
 | true =>
  simp only[if_true]
  have:∀l:List (Ent κ),dz (rk l x v) y=if y=x then(dz l x).map (fun _=>v)else dz l y:=by
   intro l;induction l with
   | nil=>simp[dz,rk]
   | cons e r ih =>
    simp only[dz,rk,map_cons,find?_cons]at ih ⊢;by_cases h1:e.key=x
    ·by_cases h2:y=x
     ·subst h2;simp[h1]
     ·simp only[h1,if_true,h2,if_false];have h3:decide (x=y)=false:=by simp;exact fun h=>h2 h.symm
      rw[h3];simp only[h2,if_false]at ih;exact ih
    ·simp only[h1,if_false];by_cases h4:e.key=y
     ·have h2:¬y=x:=fun h=>h1 (h4.trans h)
      simp[h4,h2]
     ·simp only[h4,decide_false];rw[ih]
  rw[this];rw[gM]at hh;by_cases h2:y=x
  ·subst h2;rw[if_pos rfl,if_pos rfl]
   cases hg:dz l y with
   | none=>rw[hg]at hh;cases hh
   | some u=>rfl
  ·rw[if_neg h2,if_neg h2]
 | false =>
  simp only[Bool.false_eq_true,if_false];rw[AG];have hn:dz l x=none:=by rw[gM]at hh;cases hg:dz l x<;>simp_all
  by_cases h2:y=x
  ·subst h2;rw[hn];simp[dz]
  ·rw[if_neg h2];have:dz [(⟨x,v,c⟩:Ent κ)] y=none:=gz.2 (by simp;exact fun h=>h2 h.symm);rw[this];simp
theorem dg(w:World)(b:Nat)(o:Obj):Mods (fun k=>k=b) w (setBlock w b o):=by
 have:=(Mods.refl (fun k=>k=b) w).putObj (r:=b) (.inl rfl) o;exact this
theorem ey{w:World}{b:Nat}{o o':Obj}(h:w.heap[b]?=some o):(setBlock w b o').heap[b]?=some o':=by
 have:=ae h;simp[setBlock,this]
end
structure GE (γ:Type) where
 key:Bs
 born:Nat
 val:Value
 g:γ
def aN{γ:Type}(p:GE γ):Ent Bs:=⟨p.key,p.val,p.born⟩
def gj{γ:Type}(R:Value->γ->HF)(ps:List (GE γ)):HF:=ps.flatMap (fun p=>R p.val p.g)
def gOf{γ:Type}(d:γ)(ps:List (GE γ))(l:Bs):γ:=match ps.find? (fun p=>decide (p.key=l))with|some p=>p.g|none=>d
def eH{γ:Type}(z:Value)(ps:List (GE γ))(l:Bs):Value:=match ps.find? (fun p=>decide (p.key=l))with|some p=>p.val|none=>z
def gN{γ:Type}(ps:List (GE γ))(l:Bs):Bool:=ps.any (fun p=>decide (p.key=l))
def bE{γ:Type}(ps:List (GE γ))(l:Bs):List (GE γ):=ps.filter (fun p => !decide (p.key=l))
def eh{γ:Type}(ps:List (GE γ))(c:Nat)(l:Bs)(v:Value)(g:γ):List (GE γ) :=
 if gN ps l then ps.map (fun p=>if p.key=l then { p with val:=v,g:=g } else p)else ps++[⟨l,c,v,g⟩]
theorem cP{γ:Type}(z:Value)(ps:List (GE γ))(l:Bs):(dz (ps.map aN) l).getD z=eH z ps l:=by
 unfold eH;induction ps with
 | nil=>rfl
 | cons p r ih =>
  unfold dz at ih ⊢;simp only[map_cons,find?_cons];by_cases h:p.key=l
  ·simp[aN,h]
  ·simp only[aN,h,decide_false];exact ih
theorem qi{γ:Type}(ps:List (GE γ))(l:Bs):iv (ps.map aN) l=gN ps l:=by
 unfold iv gN;rw[any_map];rfl
theorem iG{γ:Type}(ps:List (GE γ))(c:Nat)(l:Bs)(v:Value)(g:γ):(eh ps c l v g).map aN=gF (ps.map aN) c l v:=by
 unfold eh gF;rw[qi];split
 ·unfold rk;rw[map_map,map_map];apply map_congr_left;intro p _;simp only[Function.comp];by_cases h:p.key=l
  ·simp[h,aN]
  ·rw[if_neg h,if_neg (by exact h)]
 ·simp[aN]
theorem mM{γ:Type}(ps:List (GE γ))(l:Bs):(bE ps l).map aN=yt (ps.map aN) l:=by
 unfold bE yt;rw[filter_map];rfl
theorem uD{γ:Type}(R:Value->γ->HF)(z:Value)(d:γ)(hR:R z d=[]):∀(ps:List (GE γ)) (l:Bs),(ps.map (·.key)).Nodup->(gj R ps).Perm (R (eH z ps l) (gOf d ps l)++gj R (bE ps l)):=by
 intro ps l;induction ps with
 | nil=>intro _;simp[gj,eH,gOf,bE,hR]
 | cons p r ih =>
  intro hn;simp only[map_cons,nodup_cons]at hn;obtain⟨h1,h2⟩:=hn;have ih:=ih h2;simp only[gj,eH,gOf,bE,flatMap_cons,find?_cons,filter_cons]at ih ⊢;by_cases h:p.key=l
  ·have hf:r.filter (fun p => !decide (p.key=l))=r:=filter_eq_self.2 (fun q hq=>by
    simp only[Bool.not_eq_true',decide_eq_false_iff_not];intro hk;exact h1 (mem_map.2 ⟨q,hq,hk.trans h.symm⟩))
   simp only[h,decide_true,Bool.not_true,Bool.false_eq_true,if_false,hf];exact Perm.refl _
  ·simp only[h,decide_false,Bool.not_false,if_true,flatMap_cons];refine(Perm.append_left _ ih).trans ?_;rw[<- append_assoc,<- append_assoc];exact Perm.append_right _ perm_append_comm
theorem uC{γ:Type}(R:Value->γ->HF):∀(ps:List (GE γ)) (c:Nat) (l:Bs) (v:Value) (g:γ),(ps.map (·.key)).Nodup->(gj R (eh ps c l v g)).Perm (R v g++gj R (bE ps l)):=by
 intro ps c l v g hn;unfold eh;split
 ·rename_i hh
  have key:∀(ps:List (GE γ)),(ps.map (·.key)).Nodup->gN ps l=true->(gj R (ps.map (fun p=>if p.key=l then { p with val:=v,g:=g } else p))).Perm (R v g++gj R (bE ps l)):=by
   intro ps;induction ps with
   | nil=>intro _ h;simp[gN]at h
   | cons p r ih =>
    intro hn hh;simp only[map_cons,nodup_cons]at hn;obtain⟨h1,h2⟩:=hn;by_cases h:p.key=l
    ·have hne:∀q∈r,q.key≠l:=fun q hq hk=>h1 (mem_map.2 ⟨q,hq,hk.trans h.symm⟩)
     have hf:r.filter (fun p => !decide (p.key=l))=r:=filter_eq_self.2 (fun q hq=>by simp[hne q hq])
     have hm:r.map (fun p=>if p.key=l then { p with val:=v,g:=g } else p)=r:=by
      conv=>rhs;rw[<- map_id r]
      exact map_congr_left (fun q hq=>by simp[hne q hq])
     simp only[gj,bE,map_cons,flatMap_cons,filter_cons,h,if_true,decide_true,Bool.not_true,Bool.false_eq_true,if_false,hf,hm];exact Perm.refl _
    ·have hh2:gN r l=true:=by simpa[gN,h]using hh
     have ih:=ih h2 hh2;simp only[gj,bE,map_cons,flatMap_cons,filter_cons,h,if_false,decide_false,Bool.not_false,if_true]at ih ⊢;refine(Perm.append_left _ ih).trans ?_;rw[<- append_assoc,<- append_assoc];exact Perm.append_right _ perm_append_comm
  exact key ps hn hh
 ·rename_i hh
  have hf:bE ps l=ps:=filter_eq_self.2 (fun q hq=>by
   simp only[Bool.not_eq_true',decide_eq_false_iff_not];intro hk;apply hh;simp only[gN,any_eq_true,decide_eq_true_eq];exact⟨q,hq,hk⟩)
  rw[hf];unfold gj;rw[flatMap_append];simpa using perm_append_comm
theorem cy{γ:Type}(ps:List (GE γ)):(ps.map aN).map (·.key)=ps.map (·.key):=by rw[map_map];rfl
theorem fA{γ:Type}{ps:List (GE γ)}{c:Nat}{l:Bs}{v:Value}{g:γ}{p:GE γ}(h:p∈eh ps c l v g):(p∈ps/\p.key≠l)\/(p.key=l/\p.val=v/\p.g=g):=by
 unfold eh at h;split at h
 ·obtain⟨q,hq,rfl⟩:=mem_map.1 h;by_cases hk:q.key=l
  ·exact .inr (by simp[hk])
  ·rw[if_neg hk];exact .inl ⟨hq,hk⟩
 ·rename_i hh;rcases mem_append.1 h with h'|h'
  ·refine .inl ⟨h',fun hk=>hh ?_⟩;simp only[gN,any_eq_true,decide_eq_true_eq];exact⟨p,h',hk⟩
  ·simp only[mem_singleton]at h';subst h';exact .inr ⟨rfl,rfl,rfl⟩
theorem qd{γ:Type}(d:γ)(ps:List (GE γ))(c:Nat)(l m:Bs)(v:Value)(g:γ):gOf d (eh ps c l v g) m=if m=l then g else gOf d ps m:=by
 unfold eh;split
 ·rename_i hh
  have key:∀ps:List (GE γ),gOf d (ps.map (fun p=>if p.key=l then { p with val:=v,g:=g } else p)) m=if m=l/\gN ps l=true then g else gOf d ps m:=by
   intro ps;unfold gOf;induction ps with
   | nil=>simp[gN]
   | cons p r ih =>
    simp only[map_cons,find?_cons];by_cases h:p.key=l
    ·by_cases h2:m=l
     ·subst h2;simp[h,gN]
     ·have h3:¬l=m:=fun e=>h2 e.symm
      simp only[h,if_true,h3,decide_false,h2,false_and,if_false];simpa[h2]using ih
    ·by_cases h4:p.key=m
     ·have h2:¬m=l:=fun e=>h (h4.trans e)
      simp[h4,h2]
     ·simp only[h,if_false,h4,decide_false];rw[ih];simp[gN,h]
  rw[key,hh];simp
 ·rename_i hh;unfold gOf;rw[find?_append];by_cases h:m=l
  ·subst h
   have hn:ps.find? (fun p=>decide (p.key=m))=none:=by
    rw[find?_eq_none];intro q hq hk;apply hh;simp only[gN,any_eq_true];exact⟨q,hq,hk⟩
   simp[hn]
  ·have h2:¬l=m:=fun e=>h e.symm
   simp only[find?_cons,h2,decide_false,find?_nil,Option.or_none,h,if_false]
end
section
open Go.RowKit
def am(n:Nat):Bs:=replicate n 0
def eI:Array Value:=aw (am 128)
theorem nY(w:World):(zeroValue 121).run Tryz.prog w=.ok (.agg eI) w:=by kernel_rfl
theorem sI:(Tryz.prog.info? 121).map (·.size)=some 128:=by kernel_rfl
theorem Jh:(Tryz.prog.info? 121).map (fun i=>(i.zero,i.size,i.bytes))=some (some (.agg eI),128,128):=by kernel_rfl
def py:Value:=.agg (#[.int .i64 0]++eI)
theorem Il:(Tryz.prog.info? 227).map (fun i=>(i.zero,i.size,i.bytes))=some (some py,129,136):=by kernel_rfl
theorem jX:py.cells.size=129:=by kernel_rfl
theorem ex{w:World}{b:Nat}{l:Bs}{t:TypeId}{fz:Nat×Nat}(h:w.heap[b]?=some (.cells (aw l) t fz))(o n:Nat):w.rangeAt b o (((l.drop o).take n).map al):=fun j v hv=>by
 refine aa h (o+j) ?_
 simp only[aw,getElem?_toArray,getElem?_map]at hv ⊢
 rw[getElem?_take]at hv
 split at hv
 ·rw[getElem?_drop]at hv;exact hv
 ·simp at hv
theorem fL{w:World}{b:Nat}{l:Bs}{t:TypeId}(h:w.heap[b]?=some (.cells (aw l) t (0,0)))(o n:Nat)(hn:o+n<=l.length):w.there b o n:=fun j hj=>by
 rw[aa h (o+j) (gi l (o+j) (by omega))]
 exact⟨rfl,bc h _⟩
theorem iC{s:Bs}(h:s.length=128):(Tryz.prog.info? 121).map (·.size)=some (s.map al).length:=by rw[length_map,h];exact sI
theorem iD{s:Bs}(h:s.length=128):(Tryz.prog.info? 121).map (·.size)=some (aw s).size:=by rw[aw,size_toArray];exact iC h
theorem bN(s:Bs):(aw s).size=s.length:=by simp[aw]
theorem c9(s:Bs):(aw s).all (·.oneCell')=true:=all_oneCell_toArray (dW s)
theorem jx{P:Program}{fn:Func}{p q:Tmp}{ty:TypeId}(h:fn.results=#[.cell p ty,.tmp q])(tmps:Array Value)(w:World)(g:Nat)(t:TypeId)(cs:Array Value)(fr:Nat×Nat)(d:TypeDesc)(hp:tmps.getD p undef=.pointer (some ⟨g,0,none⟩))(hg:w.heap[g]?=some (.cells cs t fr))(hu:P.underlying ty=some d)(hd:(match d with|.struct _|.array _ _=>true|_=>false)=true)(hi:(P.info? ty).map (·.size)=some cs.size):
  (results fn tmps).run P w=.ok (.tuple #[.agg cs,tmps.getD q undef]) w:=by
 have hp':tmps[p]?.getD undef=.pointer (some ⟨g,0,none⟩):=by simpa using hp
 simp[results,h,hp',asAddr,run_loadVar_row w g t ty cs fr d hg hu hd hi]
def aZ(l:Bs)(o:Nat)(s:Bs):Bs:=l.take o++s++l.drop (o+s.length)
theorem jJ{l s:Bs}{o:Nat}(h:o+s.length<=l.length):(aZ l o s).length=l.length:=by simp[aZ];omega
theorem mh{w:World}{b:Nat}{l:Bs}{t:TypeId}(h:w.heap[b]?=some (.cells (aw l) t (0,0)))(o:Nat)(s:Bs)(hn:o+s.length<=l.length):
  (w.setCells b o (s.map al)).heap[b]?=some (.cells (aw (aZ l o s)) t (0,0))/\Mods (fun k=>k=b) w (w.setCells b o (s.map al)):=by
 induction s generalizing w l o with
 | nil=>exact⟨by simpa[World.setCells,aZ]using h,by simpa[World.setCells]using Mods.refl _ w⟩
 | cons x r ih =>
  simp only[map_cons,World.setCells];simp only[length_cons]at hn;have h1:=bn h o (al x);rw[uB]at h1;obtain⟨h2,h3⟩:=ih h1 (o+1) (by rw[length_set];omega);refine⟨h2.trans ?_,((Mods.refl (fun k=>k=b) w).set1 (al x)).trans h3⟩;congr 3;obtain⟨A,y,B,rfl,rfl⟩:∃A y B,l=A++y::B/\A.length=o:=⟨l.take o,l[o],l.drop (o+1),by rw[<- drop_eq_getElem_cons,take_append_drop],by simp;omega⟩;unfold aZ;rw[set_append_right _ _ (Nat.le_refl _),Nat.sub_self,QB,take_append,take_append,drop_append,drop_append];simp only[take_of_length_le (show A.length<=A.length+1 by omega),show A.length+1-A.length=1 by omega,Nat.sub_self,take_length,take_zero,append_nil,length_cons];rw[drop_of_length_le (show A.length<=A.length+1+r.length by omega),drop_of_length_le (show A.length<=A.length+(r.length+1) by omega),show A.length+1+r.length-A.length=r.length+1 by omega,show A.length+(r.length+1)-A.length=r.length+1 by omega];simp
theorem dJ{w:World}{b:Nat}{l s:Bs}{t:TypeId}(h:w.heap[b]?=some (.cells (aw l) t (0,0)))(hs:s.length=l.length):
  (w.setCells b 0 (s.map al)).heap[b]?=some (.cells (aw s) t (0,0))/\Mods (fun k=>k=b) w (w.setCells b 0 (s.map al)):=by
 obtain⟨h1,h2⟩:=mh h 0 s (by omega);refine⟨h1.trans ?_,h2⟩;congr 3;simp[aZ,hs]
theorem cw{P:Program}{ops:Array Oper}{w:World}{Q:Act->Prop}{a:Act}{op:Oper}{rest:List Oper}(hgd:op.guard=none)(ty:TypeId)(x:Operand)(ho:op.op=.load ty x)(b o:Nat)(hx:a.eval x=.pointer (some ⟨b,o,none⟩))(cs:List Value)(d:TypeDesc)(hc:w.rangeAt b o cs)(hu:P.underlying ty=some d)(hd:d.isRow=true)(hi:(P.info? ty).map (·.size)=some cs.length)(h:wpStill P ops w Q rest (a.put op.dst (.agg cs.toArray))):wpStill P ops w Q (op::rest) a:=by
 refine wpStill_step (fun K hK=>?_);have hw:Region.wanted op (yielded ops a.tmps)=true:=by simp[Region.wanted,hgd]
 rw[if_pos hw];unfold Oper.still execOp;simp only[ho,hx,Instr.loadAt,Instr.sureAddr,Sem.run_bind,Sem.run_pure,Result.andThen_ok,run_loadVar_mid w b o ty cs d hc hu hd hi,Oper.stillUpon];exact⟨trivial,hK _ h⟩
theorem jN{P:Program}{o:Oper}{a:Act}{w:World}{K:Act->World->Prop}{Q:Exit->Act->World->Prop}(s x:Operand)(t:TypeId)(hop:o.op=Op.call { callee:=Callee.builtin Builtin.append,args:=#[s,x],argTypes:=#[t,t] })(e:TypeId)(i:TypeInfo)(z:Value)(size bytes:Nat)(h1:P.underlying t=some (.slice e))(h2:P.info? e=some i)(h3:i.zero=some z)(h4:i.size=size)(h5:i.bytes=bytes)(h6:z.cells.size=size)(h7:0<size)(v:Value)(k:Nat)(xs:List Value)(hs:a.eval s=v)(hown:w.ownsRow 0 e size v k xs)(ad:Addr)(m c:Nat)(news:List Value)(hx:a.eval x=.slice (some ad) m c)(hn:news.length=m*size)(hc:∀j u,news[j]?=some u->w.cell? (ad.add j)=some u)(h1c:∀u∈news,u.oneCell'=true)(b1:k+m<=maxLen)(b2:(k+m)*bytes<=140737488355328)(hK:∀v' w',w'.ownsRow 0 e size v' (k+m) (xs++news)->w.grownBy w' v.ownBlock->(∀g,v'.ownBlock=some g->v.ownBlock=some g\/w.heap.size<=g)->K (a.put o.dst v') w'):
  Oper.wp P o a w K Q:=by
 obtain⟨v',w',hrun,r1,r2,r3,r4⟩:=jk (P:=P) w t o.type e i z size bytes h1 h2 h3 h4 h5 h6 h7 v k xs hown ad m c news hn hc h1c b1 b2;unfold Oper.wp;simp[execOp,hop,resolve,invoke,builtin,hs,hx,hrun,Result.andThen];exact hK v' w' r1 r2 r4
def spl(l:List Value)(o:Nat)(v:List Value):List Value:=l.take o++v++l.drop (o+v.length)
theorem jS(place:Nat->Option (Nat×Nat))(cells:List Value)(i:Nat)(v:Value)(off size:Nat)(rest:List (Nat×Value))(hp:place i=some (off,size))(hs:v.cells.size=size)(hfit:off+size<=cells.length):
  Instr.fill place cells.toArray ((i,v)::rest)=Instr.fill place (spl cells off v.cells.toList).toArray rest:=by
 subst hs;simp only[Instr.fill,hp];rw[if_neg (by simp;omega)];congr 1;rw[<- Array.foldl_toList,Array.toList_zipIdx];obtain⟨h1,h2⟩:=Great.foldl_set off v.cells.toList 0 cells.toArray;apply Array.ext_getElem?;intro k;rw[h2 k];simp only[getElem?_toArray,size_toArray,Nat.add_zero,Array.length_toList,spl,append_assoc];rcases Nat.lt_or_ge k off with hk|hk
 ·rw[if_neg (by omega),getElem?_append_left (by simp;omega),getElem?_take_of_lt hk]
 ·rw[getElem?_append_right (by simp;omega)];simp only[length_take];rw[show min off cells.length=off by omega];rcases Nat.lt_or_ge k (off+v.cells.size)with hk2|hk2
  ·rw[if_pos (by omega),getElem?_append_left (by simp;omega)]
  ·rw[if_neg (by omega),getElem?_append_right (by simp;omega),getElem?_drop];congr 1;simp;omega
theorem Jk(Z R:List Value)(x:Value)(h:Z.length=R.length+1):spl (spl Z 0 [x]) 1 R=x::R:=by
 cases Z with
 | nil=>simp at h
 | cons z Z =>
  have h':Z.length<=R.length:=by simp at h;omega
  simp[spl,Nat.add_comm 1,h']
theorem FC(a:Int)(s:Bs)(hs:s.length=128):Tryz.prog.built 227 [(0,.int .i64 a),(1,.agg (aw s))]=some (.int .i64 a::s.map al).toArray:=by
 have e:Tryz.prog.built 227 [(0,.int .i64 a),(1,.agg (aw s))]=Instr.fill (#[(0,1),(1,128)][·]?) (py.cells.toList).toArray [(0,.int .i64 a),(1,.agg (aw s))]:=by kernel_rfl
 have hz:py.cells.toList.length=129:=jX;rw[e];generalize py.cells.toList=Z at hz ⊢;have h8:(Value.agg (aw s)).cells.toList=s.map al:=by simp[Value.cells,aw]
 have hl:(s.map al).length=128:=by simpa using hs
 have h1:(spl Z 0 [Value.int IntKind.i64 a]).length=129:=by simp[spl];omega
 rw[jS _ _ 0 _ 0 1 _ rfl rfl (by omega)];show Instr.fill _ (spl Z 0 [Value.int IntKind.i64 a]).toArray _=_;rw[jS _ _ 1 _ 1 128 _ rfl (by simp[Value.cells,aw,hs]) (by omega),h8,Jk Z _ _ (by omega)];rfl
theorem kS{P:Program}{o:Oper}{a:Act}{w:World}{K:Act->World->Prop}{Q:Exit->Act->World->Prop}(t:TypeId)(parts:Array (Nat×Operand))(ho:o.op=.build t parts)(cells:Array Value)(hc:P.built t (parts.map fun(i,x)=>(i,a.eval x)).toList=some cells)(h:K (a.put o.dst (.agg cells)) w):o.wp P a w K Q:=by
 unfold Oper.wp execOp;simp only[ho,Sem.run_bind,run_build w t _ cells hc,Result.andThen_ok];exact h
theorem GA(cs:List Value)(hcs:cs.length=129)(n m:Nat)(hn:n=129)(hm:m=129)(Z:Array Value):Instr.fill (fun i=>some (i*n,n)) ((Array.range (1*n)).map (Z[·%m]!)) [(0,.agg cs.toArray)]=some cs.toArray:=by
 subst hn;subst hm;have hf:=Great.fill_whole (s:=129) (by omega) [Value.agg cs.toArray] ((Array.range (1*129)).map (Z[·%129]!)) (fun v hv=>by simp at hv;subst hv;simpa[Value.cells]using hcs) (by simp);simpa[Value.cells]using hf
structure DevL where
 n:Nat
 sb:Nat
 nb:Nat
 chv:Value
 safe:Bs
 now:Bs
 chs:List (Nat×Bs)
def bW(l:List (Nat×Bs)):List Value:=l.flatMap fun c=>Value.int .i64 c.1::c.2.map al
def aD(d:Nat)(L:DevL):HF :=
 (d,Is (.cells #[.slice (some ⟨L.sb,0,none⟩) L.n L.n,.slice (some ⟨L.nb,0,none⟩) L.n L.n,L.chv,.int .i64 (-1)] 86 (0,0))) ::
 (L.nb,Is (.cells (aw L.now) 121 (0,0))) ::
 (L.sb,Is (.cells (aw L.safe) 121 (0,0))) ::
 bK 227 129 L.chv L.chs.length (bW L.chs)
def jD(s:Bs)(l:List (Nat×Bs)):Bs:=l.foldl (fun s c=>aZ s (128*c.1) c.2) s
structure DevOk (L:DevL):Prop where
 hn:L.n<=1099511627776
 safeL:L.safe.length=128*L.n
 nowL:L.now.length=128*L.n
 row:et 129 L.chv L.chs.length (bW L.chs)
 chs:∀c∈L.chs,c.1<L.n/\c.2.length=128
 now:jD L.safe L.chs=L.now
theorem fw{w:World}{d:Nat}{L:DevL}{R:HF}(h:Sat w (aD d L++R)):w.heap[d]?=some (.cells #[.slice (some ⟨L.sb,0,none⟩) L.n L.n,.slice (some ⟨L.nb,0,none⟩) L.n L.n,L.chv,.int .i64 (-1)] 86 (0,0)):=by
 exact h.Q5
theorem pW{w:World}{d:Nat}{L:DevL}{R:HF}(h:Sat w (aD d L++R)):w.heap[L.nb]?=some (.cells (aw L.now) 121 (0,0)):=by
 exact h.tail.Q5
theorem wM{w:World}{d:Nat}{L:DevL}{R:HF}(h:Sat w (aD d L++R)):w.heap[L.sb]?=some (.cells (aw L.safe) 121 (0,0)):=by
 exact h.tail.tail.Q5
def aM(l:Bs)(at_:Nat):Bs:=(l.drop (128*at_)).take 128
theorem iE{l:Bs}{n at_:Nat}(h:l.length=128*n)(ha:at_<n):(aM l at_).length=128:=by simp[aM];omega
theorem Ar{d:Nat}{L:DevL}{w w':World}{now':Bs}(h:Sat w (aD d L))(hm:Mods (fun k=>k=L.nb) w w')(hn:w'.heap[L.nb]?=some (.cells (aw now') 121 (0,0))):Turns (aD d L) (aD d { L with now:=now' }) w w' :=
 ((Turns.refl (h.perm (Perm.swap _ _ _))).Qa hm hn).perm (Perm.swap _ _ _) (Perm.swap _ _ _)
theorem yu{d:Nat}{L:DevL}{w w':World}{safe':Bs}(h:Sat w (aD d L))(hm:Mods (fun k=>k=L.sb) w w')(hn:w'.heap[L.sb]?=some (.cells (aw safe') 121 (0,0))):Turns (aD d L) (aD d { L with safe:=safe' }) w w':=by
 have p:∀(a b c:Nat×(Obj->Prop)) (l:HF),(a::b::c::l).Perm (c::a::b::l):=fun a b c l=>((Perm.swap _ _ _).cons a).trans (Perm.swap _ _ _)
 exact((Turns.refl (h.perm (p _ _ _ _))).Qa hm hn).perm (p _ _ _ _).symm (p _ _ _ _).symm
theorem Aq{d:Nat}{L:DevL}{w w1 w2:World}{v':Value}{chs':List (Nat×Bs)}(h:Sat w (aD d L))(hown:w1.ownsRow 0 227 129 v' chs'.length (bW chs'))(hgrow:w.grownBy w1 L.chv.ownBlock)(hg:∀g,v'.ownBlock=some g->L.chv.ownBlock=some g\/w.heap.size<=g)(hm:Mods (fun k=>k=d) w1 w2)(hd:w2.heap[d]?=some (.cells #[.slice (some ⟨L.sb,0,none⟩) L.n L.n,.slice (some ⟨L.nb,0,none⟩) L.n L.n,v',.int .i64 (-1)] 86 (0,0))):
  Turns (aD d L) (aD d { L with chv:=v',chs:=chs' }) w w2:=by
 have p:∀(a b c:Nat×(Obj->Prop)) (l:HF),(a::b::c::l).Perm (l++[a,b,c]):=fun a b c l=>by
  have:(a::b::c::l)=[a,b,c]++l:=rfl;rw[this];exact perm_append_comm
 have h1:Turns (aD d L) _ w w1:=((Turns.refl (h.perm (p _ _ _ _))).grow hown hgrow hg).perm (p _ _ _ _).symm (p _ _ _ _).symm;exact h1.Qa hm hd
theorem pQ(l:List (Nat×Bs))(c:Nat×Bs):bW (l++[c])=bW l++(.int .i64 c.1::c.2.map al):=by simp[bW]
theorem pH(s:Bs)(l:List (Nat×Bs))(c:Nat×Bs):jD s (l++[c])=aZ (jD s l) (128*c.1) c.2:=by simp[jD]
def JH(w:World)(e:Ending)(w':World):Prop:=e=.returned (.bool false)/\w=w'
theorem qX(d:Nat)(L:DevL)(w:World)(h:Sat w (aD d L)):Calls Tryz.prog 104 #[.pointer (some ⟨d,0,none⟩)] w (JH w):=by
 have hd:=fw (R:=[]) (by simpa using h);have c3:=aa hd 3 (v:=.int .i64 (-1)) (by simp);have H:=Hq2 h hd;clear h hd;go_enter Tryz.func104,Tryz.ntmps104;go_wp2;go_ret;exact⟨rfl,rfl⟩
def zI(n:Nat)(w:World)(e:Ending)(w':World):Prop:=e=.returned (.int .i64 n)/\w=w'
theorem kV(d:Nat)(L:DevL)(w:World)(h:Sat w (aD d L)):Calls Tryz.prog 79 #[.pointer (some ⟨d,0,none⟩)] w (zI L.n w):=by
 have hd:=fw (R:=[]) (by simpa using h);have c0:=aa hd 0 (v:=.slice (some ⟨L.sb,0,none⟩) L.n L.n) (by simp);have H:=Hq2 h hd;clear h hd;go_enter Tryz.func79,Tryz.ntmps79;go_wp2;go_ret;exact⟨rfl,rfl⟩
def jZ(L:DevL)(at_:Nat)(w:World)(e:Ending)(w':World):Prop :=
 e=.returned (.tuple #[.agg (aw (aM L.now at_)),.nilIface])/\aQ w w'
theorem lI(d:Nat)(L:DevL)(at_:Nat)(w:World)(h:Sat w (aD d L))(hL:DevOk L)(ha:at_<L.n):
  Calls Tryz.prog 115 #[.pointer (some ⟨d,0,none⟩),.int .i64 at_] w (jZ L at_ w):=by
 have hn:=hL.hn;have hd:=fw (R:=[]) (by simpa using h);have hnow:=pW (R:=[]) (by simpa using h);have c0:=aa hd 0 (v:=.slice (some ⟨L.sb,0,none⟩) L.n L.n) (by simp);have c1:=aa hd 1 (v:=.slice (some ⟨L.nb,0,none⟩) L.n L.n) (by simp);have HO:=qqH (fun W (hs:aQ w W)=>qX d L W (h.same hs));have hz:=nY;have g1:decide ((at_:Int)<0)=false:=by simp
 have g2:decide (L.n<=at_)=false:=by simp;omega
 have hdl:d<w.heap.size:=ae hd;have H:=Hq4 h hd hL hnow;clear h hd hL hnow;go_enter Tryz.func115,Tryz.ntmps115;go_wp2_with fail;refine(HO.out _ (((Mods.refl _ w).alloc _).alloc _)).mono ?_;rintro e w1 ⟨rfl,rfl⟩;have hsl:=iE H.c.nowL ha;have HR:=qqH hsl;clear hsl;go_wp2_with (first|(refine wpList_load_mid rfl 121 (.tmp 35) rfl L.nb (at_*128) rfl ((aM L.now at_).map al) _ ?c1 Tryz.underlying121 rfl (iC HR.out) ?_)|(refine wpList_store_mid rfl 121 (.tmp 4) (.tmp 36) rfl w.heap.size 0 (aw (aM L.now at_)) rfl rfl ?c2 (iD HR.out) (c9 _) ?_))
 case c1=>rw[Nat.mul_comm];exact World.rangeAt_alloc (World.rangeAt_alloc (ex H.x _ _) _) _
 all_goals have hw0:((w.alloc (Obj.cells eI 121)).alloc (Obj.cells eI 121)).heap[w.heap.size]?=some (.cells (aw (am 128)) 121 (0,0)):=(dR (by simp)).trans (aK w _)
 case c2=>exact fL hw0 0 _ (by rw[bN,HR.out];simp[am])
 obtain⟨h1,h2⟩:=dJ hw0 (s:=aM L.now at_) (by rw[HR.out];simp[am]);refine bodyPost_ret (jx rfl _ _ w.heap.size 121 (aw (aM L.now at_)) (0,0) _ rfl h1 Tryz.underlying121 rfl (iD HR.out)) rfl ⟨rfl,?_⟩;exact(((Mods.refl _ w).alloc _).alloc _).trans' h2 (fun i hi=>.inr (by omega))
def jP(d:Nat)(L:DevL)(at_:Nat)(s:Bs)(w:World)(e:Ending)(w':World):Prop :=
 e=.returned .nilIface/\∃L',Turns (aD d L) (aD d L') w w'/\DevOk L'/\L'.n=L.n/\L'.now=aZ L.now (128*at_) s/\L'.chs.length=L.chs.length+1
theorem jp(d:Nat)(L:DevL)(at_:Nat)(s:Bs)(w:World)(h:Sat w (aD d L))(hL:DevOk L)(ha:at_<L.n)(hs:s.length=128)(hc:L.chs.length<=274877906944):
  Calls Tryz.prog 113 #[.pointer (some ⟨d,0,none⟩),.int .i64 at_,.agg (aw s)] w (jP d L at_ s w):=by
 have hn:=hL.hn;have hd:=fw (R:=[]) (by simpa using h);have hnow:=pW (R:=[]) (by simpa using h);have c0:=aa hd 0 (v:=.slice (some ⟨L.sb,0,none⟩) L.n L.n) (by simp);have c1:=aa hd 1 (v:=.slice (some ⟨L.nb,0,none⟩) L.n L.n) (by simp);have c2:=aa hd 2 (v:=L.chv) (by simp);have f2:=bc hd 2;have hdl:d<w.heap.size:=ae hd;have HO:=qqH (fun W (hs:aQ w W)=>qX d L W (h.same hs));have g1:decide ((at_:Int)<0)=false:=by simp
 have g2:decide (L.n<=at_)=false:=by simp;omega
 have H:=Hq5 h hd hL hnow hs;clear h hd hL hnow hs;go_enter Tryz.func113,Tryz.ntmps113;go_wp2_with fail;refine(HO.out _ (((Mods.refl _ w).alloc _))).mono ?_;rintro e w1 ⟨rfl,rfl⟩;go_wp2_with fail;have hw1:=aK w (.cells (aw s) 121);have hs1:aQ w (w.alloc (.cells (aw s) 121)):=(Mods.refl _ w).alloc _;have hsz:(w.alloc (.cells (aw s) 121)).heap.size=w.heap.size+1:=by simp
 generalize hB:w.heap.size=B at hw1 hsz hdl ⊢;generalize w.alloc (.cells (aw s) 121)=w1 at hw1 hs1 hsz ⊢;have HB:=Hq3 hB hw1 hs1;have HS:=qqH (H.a.same hs1);clear hB hw1 hs1 c0 c1 c2 f2 HO;have c1:=aa (fw (R:=[]) (by simpa using HS.out)) 1 (v:=.slice (some ⟨L.nb,0,none⟩) L.n L.n) (by simp);have hm:Tryz.prog.follows .mixedOrders=true:=by kernel_rfl
 have HM:=qqH hm;clear hm;refine wp_region_still_tail 7 HM.out (by kernel_rfl) ?_;simp only[QE,take_zero,QD,drop_zero];repeat still_step
 refine cw rfl 121 (.tmp 5) rfl B 0 rfl (s.map al) _ (by have:=ex HB.b 0 128;rwa [drop_zero,take_of_length_le (by have:=H.w;omega)]at this) Tryz.underlying121 rfl (iC H.w) ?_;repeat still_step
 refine wpStill_nil ?_;change wpList _ _ _ _ _ w1.drew;go_wp2_with (refine wpList_store_mid rfl 121 (.tmp 34) (.tmp 33) rfl L.nb (at_*128) (aw s) rfl rfl ?c2 (iD H.w) (c9 _) ?_)
 case c2=>exact(World.there_drew _ _ _ _).2 (fL (pW (R:=[]) (by simpa using HS.out)) _ _ (by rw[bN,H.c.nowL,H.w];omega))
 obtain⟨hp1,hp2⟩:=mh (w:=w1.drew) (pW (w:=w1) (d:=d) (R:=[]) (by simpa using HS.out)) (at_*128) s (by rw[H.c.nowL,H.w];omega);have hT2:=(Turns.Qg H.a HB.y ((Turns.refl HS.out).drew)).trans (Ar (HS.out.same ((Mods.refl _ w1).drew)) hp2 hp1);have hb2:(w1.drew.setCells L.nb (at_*128) (s.map al)).heap[B]?=some (.cells (aw s) 121 (0,0)):=hp2.at HB.b (fun e=>by have:=HS.out.lt (b:=L.nb) (by simp[aD]);have h0:=H.a.lt (b:=L.nb) (by simp[aD]);rw[HB.a]at h0;omega);show Code.wp _ _ _ _ (w1.drew.setCells L.nb (at_*128) (s.map al));refine wp_region_any HM.out ?_;change wpAny _ _ _ _ _ _ _ (World.drew _);have hT3:=hT2.drew;have hb3:((w1.drew.setCells L.nb (at_*128) (s.map al)).drew).heap[B]?=_:=hb2;generalize (w1.drew.setCells L.nb (at_*128) (s.map al)).drew=w2 at hT3 hb3 ⊢;clear hp1 hp2 hT2 hb2;have hd2:=fw (R:=[]) (by simpa using hT3.sat);have c2:=aa hd2 2 (v:=L.chv) (by simp);have f2:=bc hd2 2;have hdl2:d<w2.heap.size:=ae hd2;have HRG:=qqH (by have:=ex (w:=w2) hb3 0 128;rwa [drop_zero,take_of_length_le (by have:=H.w;omega)]at this);obtain⟨i0,hi0,hz1,hz2,hz3⟩:=info_parts Il;have HBD:Hid (Tryz.prog.built 227 [(0,.int .i64 at_),(1,.agg (s.map al).toArray)]=some (.int .i64 at_::s.map al).toArray):=qqH (FC at_ s H.w)
 have HSL:Hid (¬1*i0.size>2 ^ 24/\¬1*i0.size=0/\Instr.fill (fun i=>some (i*i0.size,i0.size)) ((Array.range (1*i0.size)).map (py.cells[·%py.cells.size]!)) [(0,.agg (.int .i64 at_::s.map al).toArray)]=some (.int .i64 at_::s.map al).toArray) :=
  qqH ⟨by rw[hz2];omega,by rw[hz2];omega,GA _ (by simp[H.w]) _ _ hz2 jX _⟩
 have HI:=Hq4 hi0 hz1 hz2 hz3;have hcl:(Value.int .i64 at_::s.map al).length=1*129:=by simp[H.w]
 have h1c:∀u∈(Value.int .i64 at_::s.map al),u.oneCell'=true:=fun u hu=>by
  rcases mem_cons.1 hu with rfl|hu
  ·rfl
  ·exact dW s u hu
 have hnc:∀j u,(Value.int .i64 at_::s.map al)[j]?=some u->(w2.alloc (.cells (Value.int .i64 at_::s.map al).toArray 227)).cell? ((⟨w2.heap.size,0,none⟩:Addr).add j)=some u:=fun j u hu=>by
  rw[Addr.add_mid,Nat.zero_add];exact aa (aK w2 _) j (by simpa using hu)
 obtain⟨nw,hnw⟩:∃nw,nw=w2.alloc (.cells (Value.int .i64 at_::s.map al).toArray 227):=⟨_,rfl⟩;have hT4:Turns (aD d L) (aD d { L with now:=aZ L.now (at_*128) s }) w nw:=by rw[hnw];exact hT3.alloc _
 have HW:Hid (True/\(w2.alloc (.cells (Value.int .i64 at_::s.map al).toArray 227)).ownsRow 0 227 129 L.chv L.chs.length (bW L.chs)):=qqH ⟨trivial,by rw[<- hnw];exact aR hT4.sat.tail.tail.tail H.c.row⟩;have HA:=Hq3 hcl hnc h1c
 have HD:Hid (∀v' w3,World.ownsRow w3 0 227 129 v' (L.chs.length+1) (bW L.chs++(Value.int .i64 at_::s.map al))->World.grownBy (w2.alloc (.cells (Value.int .i64 at_::s.map al).toArray 227)) w3 L.chv.ownBlock->(∀g,v'.ownBlock=some g->L.chv.ownBlock=some g\/(w2.alloc (.cells (Value.int .i64 at_::s.map al).toArray 227)).heap.size<=g)->w3.heap[d]?=some (.cells #[.slice (some ⟨L.sb,0,none⟩) L.n L.n,.slice (some ⟨L.nb,0,none⟩) L.n L.n,L.chv,.int .i64 (-1)] 86 (0,0))/\jP d L at_ s w (.returned .nilIface) (w3.setCell ⟨d,2,none⟩ v')):=qqH (by
  rw[<- hnw];intro v' w3 hown hgrow hg;have hd4:=fw (R:=[]) (by simpa using hT4.sat)
  have hd3:=(Mods.Qk hgrow).at hd4 (fun e=>by
   have h1:=hT4.sat.nodup
   have h2:d∉dom (bK 227 129 L.chv L.chs.length (bW L.chs)):=fun hm=>by
    have:=hT4.sat.notMem;exact this (by simp only[gI,mem_cons];exact .inr (.inr hm))
   exact h2 ((eK _ _ _ _ _ _).2 e))
  refine⟨hd3,rfl,{ L with now:=aZ L.now (at_*128) s,chv:=v',chs:=L.chs++[(at_,s)] },?_,?_,rfl,by rw[Nat.mul_comm],by simp⟩
  ·refine hT4.trans (Aq (v':=v') (chs':=L.chs++[(at_,s)]) hT4.sat ?_ hgrow hg ((Mods.refl _ w3).set1 v') ((bn hd3 2 v').trans (by simp)));rw[pQ,length_append];exact hown
  ·have hL:=H.c;have hs:=H.w;refine⟨hL.hn,hL.safeL,by rw[jJ (by rw[hL.nowL,hs];omega)];exact hL.nowL,?_,?_,?_⟩
   ·have:=(fg hown).2;rw[pQ,length_append];exact this
   ·intro c hc;rcases mem_append.1 hc with hc|hc
    ·exact hL.chs c hc
    ·simp at hc;subst hc;exact⟨ha,hs⟩
   ·show jD L.safe (L.chs++[(at_,s)])=_;rw[pH,hL.now,Nat.mul_comm])
 clear hi0 hz1 hz2 hz3 hT3 hd2 hb3 c1 hcl hnc h1c hT4 hnw;refine wpAny_take (i:=0) (v:=?_) rfl (by kernel_rfl) (by kernel_rfl) (by kernel_rfl) (fun _ _ _ h=>h) (Or.inl ⟨by rfl,?_⟩) ?_;rotate_left
 ·intro w;go_simp;try (with_reducible rfl)
 refine wpAny_take (i:=1) (v:=?_) rfl (by kernel_rfl) (by kernel_rfl) (by kernel_rfl) (fun _ _ _ h=>h) (Or.inl ⟨by rfl,?_⟩) ?_;rotate_left
 ·intro w;go_simp;try (with_reducible rfl)
 refine wpAny_take (i:=2) (v:=?_) rfl (by kernel_rfl) (by kernel_rfl) (by kernel_rfl) (fun _ _ _ h=>h) (Or.inl ⟨by rfl,?_⟩) ?_;rotate_left
 ·intro w;go_simp;try (with_reducible rfl)
 refine wpAny_take (i:=3) (v:=?_) rfl (by kernel_rfl) (by kernel_rfl) (by kernel_rfl) (fun _ _ _ h=>h) (Or.inl ⟨by rfl,?_⟩) ?_;rotate_left
 ·intro w;go_simp;try (with_reducible rfl)
 refine wpAny_take (i:=5) (v:=?_) rfl (by kernel_rfl) (by kernel_rfl) (by kernel_rfl) (fun _ _ _ h=>h) (Or.inl ⟨by rfl,?_⟩) ?_;rotate_left
 ·intro w;go_simp;try (with_reducible rfl)
 refine wpAny_ready (rs:=[4,6]) (by kernel_rfl) (by simp) ?_;refine AllReady.cons rfl (fun K hK=>?_) ?_
 ·go_simp;refine hK _ _ ?_;clear hK K;refine wpAny_ready (rs:=[6]) (by kernel_rfl) (by simp) ?_;refine AllReady.cons rfl (fun K hK=>?_) ?_
  ·simp only[getElem_toArray,getElem_cons_succ,getElem_cons_zero];rw[if_pos (by rfl)];refine wp_load_mid 121 (.tmp 5) rfl B 0 rfl (s.map al) _ HRG.out Tryz.underlying121 rfl (iC H.w) ?_;simp only[Act.put,QA,QB,QC];refine hK _ _ ?_;clear hK K;refine wpAny_ready (rs:=[7]) (by kernel_rfl) (by simp) ?_;refine AllReady.cons rfl (fun K hK=>?_) ?_
   ·simp only[getElem_toArray,getElem_cons_succ,getElem_cons_zero];rw[if_pos (by rfl)];refine kS 227 _ rfl (Value.int .i64 (at_:Int)::s.map al).toArray (by simp only[map_toArray,map_cons,map_nil];exact HBD.out) ?_;simp only[Act.put,QA,QB,QC];refine hK _ _ ?_;clear hK K;refine wpAny_ready (rs:=[8]) (by kernel_rfl) (by simp) ?_;refine AllReady.cons rfl (fun K hK=>?_) ?_
    ·simp only[getElem_toArray,getElem_cons_succ,getElem_cons_zero];rw[if_pos (by rfl)];refine wp_buildSlice 84 227 1 _ rfl (Value.int .i64 (at_:Int)::s.map al).toArray i0 py Tryz.underlying84 HI.a HI.b HSL.a HSL.b (by simp only[map_toArray,map_cons,map_nil];exact HSL.y) ?_;simp only[Act.put,QA,QB,QC];refine hK _ _ ?_;clear hK K;refine wpAny_ready (rs:=[9]) (by kernel_rfl) (by simp) ?_;refine AllReady.cons rfl (fun K hK=>?_) ?_
     ·simp only[getElem_toArray,getElem_cons_succ,getElem_cons_zero];rw[if_pos (by rfl)];refine jN (.tmp 39) (.tmp 43) 84 rfl 227 i0 py 129 136 Tryz.underlying84 HI.a HI.b HI.c HI.x jX (by decide) L.chv L.chs.length (bW L.chs) rfl HW.z ⟨w2.heap.size,0,none⟩ 1 1 (Value.int .i64 (at_:Int)::s.map al) rfl HA.a HA.b HA.y (by unfold maxLen;omega) (by omega) ?_;intro v' w3 hown hgrow hg;obtain⟨g',cap',rfl⟩:=ownsRow_succ hown;have hd3:=HD.out _ w3 hown hgrow hg;have c3:=aa hd3.1 2 (v:=L.chv) (by simp);have f3:=bc hd3.1 2;have HF:=qqH hd3;clear hd3 hown hgrow hg;simp only[Act.put,QA,QB,QC];refine hK _ _ ?_;clear hK K;refine wpAny_take (i:=10) (v:=?_) rfl (by kernel_rfl) (by kernel_rfl) (by kernel_rfl) (fun _ _ _ h=>h) (Or.inl ⟨by rfl,?_⟩) ?_;rotate_left
      ·intro w;go_simp;try (with_reducible rfl)
      refine wpAny_take (i:=11) (v:=?_) rfl (by kernel_rfl) (by kernel_rfl) (by kernel_rfl) (fun _ _ _ h=>h) (Or.inl ⟨by rfl,?_⟩) ?_;rotate_left
      ·intro w;go_simp;try (with_reducible rfl)
      refine wpAny_ready (rs:=[12]) (by kernel_rfl) (by simp) ?_;refine AllReady.cons rfl (fun K hK=>?_) ?_
      ·go_simp;refine hK _ _ ?_;clear hK K;refine wpAny_done (by kernel_rfl) ?_ _;go_wp2;go_ret;exact HF.z
      exact AllReady.nil
     exact AllReady.nil
    exact AllReady.nil
   exact AllReady.nil
  exact AllReady.nil
 refine AllReady.cons rfl (fun K hK=>?_) ?_
 ·simp only[getElem_toArray,getElem_cons_succ,getElem_cons_zero];rw[if_pos (by rfl)];refine wp_load_mid 121 (.tmp 5) rfl B 0 rfl (s.map al) _ HRG.out Tryz.underlying121 rfl (iC H.w) ?_;simp only[Act.put,QA,QB,QC];refine hK _ _ ?_;clear hK K;refine wpAny_ready (rs:=[4,7]) (by kernel_rfl) (by simp) ?_;refine AllReady.cons rfl (fun K hK=>?_) ?_
  ·go_simp;refine hK _ _ ?_;clear hK K;refine wpAny_ready (rs:=[7]) (by kernel_rfl) (by simp) ?_;refine AllReady.cons rfl (fun K hK=>?_) ?_
   ·simp only[getElem_toArray,getElem_cons_succ,getElem_cons_zero];rw[if_pos (by rfl)];refine kS 227 _ rfl (Value.int .i64 (at_:Int)::s.map al).toArray (by simp only[map_toArray,map_cons,map_nil];exact HBD.out) ?_;simp only[Act.put,QA,QB,QC];refine hK _ _ ?_;clear hK K;refine wpAny_ready (rs:=[8]) (by kernel_rfl) (by simp) ?_;refine AllReady.cons rfl (fun K hK=>?_) ?_
    ·simp only[getElem_toArray,getElem_cons_succ,getElem_cons_zero];rw[if_pos (by rfl)];refine wp_buildSlice 84 227 1 _ rfl (Value.int .i64 (at_:Int)::s.map al).toArray i0 py Tryz.underlying84 HI.a HI.b HSL.a HSL.b (by simp only[map_toArray,map_cons,map_nil];exact HSL.y) ?_;simp only[Act.put,QA,QB,QC];refine hK _ _ ?_;clear hK K;refine wpAny_ready (rs:=[9]) (by kernel_rfl) (by simp) ?_;refine AllReady.cons rfl (fun K hK=>?_) ?_
     ·simp only[getElem_toArray,getElem_cons_succ,getElem_cons_zero];rw[if_pos (by rfl)];refine jN (.tmp 39) (.tmp 43) 84 rfl 227 i0 py 129 136 Tryz.underlying84 HI.a HI.b HI.c HI.x jX (by decide) L.chv L.chs.length (bW L.chs) rfl HW.z ⟨w2.heap.size,0,none⟩ 1 1 (Value.int .i64 (at_:Int)::s.map al) rfl HA.a HA.b HA.y (by unfold maxLen;omega) (by omega) ?_;intro v' w3 hown hgrow hg;obtain⟨g',cap',rfl⟩:=ownsRow_succ hown;have hd3:=HD.out _ w3 hown hgrow hg;have c3:=aa hd3.1 2 (v:=L.chv) (by simp);have f3:=bc hd3.1 2;have HF:=qqH hd3;clear hd3 hown hgrow hg;simp only[Act.put,QA,QB,QC];refine hK _ _ ?_;clear hK K;refine wpAny_take (i:=10) (v:=?_) rfl (by kernel_rfl) (by kernel_rfl) (by kernel_rfl) (fun _ _ _ h=>h) (Or.inl ⟨by rfl,?_⟩) ?_;rotate_left
      ·intro w;go_simp;try (with_reducible rfl)
      refine wpAny_take (i:=11) (v:=?_) rfl (by kernel_rfl) (by kernel_rfl) (by kernel_rfl) (fun _ _ _ h=>h) (Or.inl ⟨by rfl,?_⟩) ?_;rotate_left
      ·intro w;go_simp;try (with_reducible rfl)
      refine wpAny_ready (rs:=[12]) (by kernel_rfl) (by simp) ?_;refine AllReady.cons rfl (fun K hK=>?_) ?_
      ·go_simp;refine hK _ _ ?_;clear hK K;refine wpAny_done (by kernel_rfl) ?_ _;go_wp2;go_ret;exact HF.z
      exact AllReady.nil
     exact AllReady.nil
    exact AllReady.nil
   exact AllReady.nil
  refine AllReady.cons rfl (fun K hK=>?_) ?_
  ·simp only[getElem_toArray,getElem_cons_succ,getElem_cons_zero];rw[if_pos (by rfl)];refine kS 227 _ rfl (Value.int .i64 (at_:Int)::s.map al).toArray (by simp only[map_toArray,map_cons,map_nil];exact HBD.out) ?_;simp only[Act.put,QA,QB,QC];refine hK _ _ ?_;clear hK K;refine wpAny_ready (rs:=[4,8]) (by kernel_rfl) (by simp) ?_;refine AllReady.cons rfl (fun K hK=>?_) ?_
   ·go_simp;refine hK _ _ ?_;clear hK K;refine wpAny_ready (rs:=[8]) (by kernel_rfl) (by simp) ?_;refine AllReady.cons rfl (fun K hK=>?_) ?_
    ·simp only[getElem_toArray,getElem_cons_succ,getElem_cons_zero];rw[if_pos (by rfl)];refine wp_buildSlice 84 227 1 _ rfl (Value.int .i64 (at_:Int)::s.map al).toArray i0 py Tryz.underlying84 HI.a HI.b HSL.a HSL.b (by simp only[map_toArray,map_cons,map_nil];exact HSL.y) ?_;simp only[Act.put,QA,QB,QC];refine hK _ _ ?_;clear hK K;refine wpAny_ready (rs:=[9]) (by kernel_rfl) (by simp) ?_;refine AllReady.cons rfl (fun K hK=>?_) ?_
     ·simp only[getElem_toArray,getElem_cons_succ,getElem_cons_zero];rw[if_pos (by rfl)];refine jN (.tmp 39) (.tmp 43) 84 rfl 227 i0 py 129 136 Tryz.underlying84 HI.a HI.b HI.c HI.x jX (by decide) L.chv L.chs.length (bW L.chs) rfl HW.z ⟨w2.heap.size,0,none⟩ 1 1 (Value.int .i64 (at_:Int)::s.map al) rfl HA.a HA.b HA.y (by unfold maxLen;omega) (by omega) ?_;intro v' w3 hown hgrow hg;obtain⟨g',cap',rfl⟩:=ownsRow_succ hown;have hd3:=HD.out _ w3 hown hgrow hg;have c3:=aa hd3.1 2 (v:=L.chv) (by simp);have f3:=bc hd3.1 2;have HF:=qqH hd3;clear hd3 hown hgrow hg;simp only[Act.put,QA,QB,QC];refine hK _ _ ?_;clear hK K;refine wpAny_take (i:=10) (v:=?_) rfl (by kernel_rfl) (by kernel_rfl) (by kernel_rfl) (fun _ _ _ h=>h) (Or.inl ⟨by rfl,?_⟩) ?_;rotate_left
      ·intro w;go_simp;try (with_reducible rfl)
      refine wpAny_take (i:=11) (v:=?_) rfl (by kernel_rfl) (by kernel_rfl) (by kernel_rfl) (fun _ _ _ h=>h) (Or.inl ⟨by rfl,?_⟩) ?_;rotate_left
      ·intro w;go_simp;try (with_reducible rfl)
      refine wpAny_ready (rs:=[12]) (by kernel_rfl) (by simp) ?_;refine AllReady.cons rfl (fun K hK=>?_) ?_
      ·go_simp;refine hK _ _ ?_;clear hK K;refine wpAny_done (by kernel_rfl) ?_ _;go_wp2;go_ret;exact HF.z
      exact AllReady.nil
     exact AllReady.nil
    exact AllReady.nil
   refine AllReady.cons rfl (fun K hK=>?_) ?_
   ·simp only[getElem_toArray,getElem_cons_succ,getElem_cons_zero];rw[if_pos (by rfl)];refine wp_buildSlice 84 227 1 _ rfl (Value.int .i64 (at_:Int)::s.map al).toArray i0 py Tryz.underlying84 HI.a HI.b HSL.a HSL.b (by simp only[map_toArray,map_cons,map_nil];exact HSL.y) ?_;simp only[Act.put,QA,QB,QC];refine hK _ _ ?_;clear hK K;refine wpAny_ready (rs:=[4]) (by kernel_rfl) (by simp) ?_;refine AllReady.cons rfl (fun K hK=>?_) ?_
    ·go_simp;refine hK _ _ ?_;clear hK K;refine wpAny_ready (rs:=[9]) (by kernel_rfl) (by simp) ?_;refine AllReady.cons rfl (fun K hK=>?_) ?_
     ·simp only[getElem_toArray,getElem_cons_succ,getElem_cons_zero];rw[if_pos (by rfl)];refine jN (.tmp 39) (.tmp 43) 84 rfl 227 i0 py 129 136 Tryz.underlying84 HI.a HI.b HI.c HI.x jX (by decide) L.chv L.chs.length (bW L.chs) rfl HW.z ⟨w2.heap.size,0,none⟩ 1 1 (Value.int .i64 (at_:Int)::s.map al) rfl HA.a HA.b HA.y (by unfold maxLen;omega) (by omega) ?_;intro v' w3 hown hgrow hg;obtain⟨g',cap',rfl⟩:=ownsRow_succ hown;have hd3:=HD.out _ w3 hown hgrow hg;have c3:=aa hd3.1 2 (v:=L.chv) (by simp);have f3:=bc hd3.1 2;have HF:=qqH hd3;clear hd3 hown hgrow hg;simp only[Act.put,QA,QB,QC];refine hK _ _ ?_;clear hK K;refine wpAny_take (i:=10) (v:=?_) rfl (by kernel_rfl) (by kernel_rfl) (by kernel_rfl) (fun _ _ _ h=>h) (Or.inl ⟨by rfl,?_⟩) ?_;rotate_left
      ·intro w;go_simp;try (with_reducible rfl)
      refine wpAny_take (i:=11) (v:=?_) rfl (by kernel_rfl) (by kernel_rfl) (by kernel_rfl) (fun _ _ _ h=>h) (Or.inl ⟨by rfl,?_⟩) ?_;rotate_left
      ·intro w;go_simp;try (with_reducible rfl)
      refine wpAny_ready (rs:=[12]) (by kernel_rfl) (by simp) ?_;refine AllReady.cons rfl (fun K hK=>?_) ?_
      ·go_simp;refine hK _ _ ?_;clear hK K;refine wpAny_done (by kernel_rfl) ?_ _;go_wp2;go_ret;exact HF.z
      exact AllReady.nil
     exact AllReady.nil
    exact AllReady.nil
   exact AllReady.nil
  exact AllReady.nil
 exact AllReady.nil
theorem an(n:Nat):(am n).length=n:=by simp[am]
theorem LT(m:Nat):madeCells eI m=aw (am m):=by
 apply Array.ext_getElem?;intro k;unfold madeCells aw am;by_cases hk:k<m
 ·have hz:eI.size=128:=by simp[eI,bN,am]
  have h2:k%eI.size<eI.size:=by rw[hz];omega
  have h3:eI[k%eI.size]! = al 0:=by
   rw[getElem!_pos eI _ h2]
   have h5:eI[k%eI.size]?=some (al 0):=by
    refine(gi (am 128) (k%eI.size) (by rw[an];omega)).trans ?_;exact congrArg some (congrArg al (getElem_replicate _))
   rw[Array.getElem?_eq_getElem h2]at h5;exact Option.some.inj h5
  simp[hk,h3]
 ·simp[hk]
theorem yW(n:Nat)(hn:n<=1099511627776)(w:World):(Instr.makeSlice 83 (.int .i64 n) (.int .i64 n)).run Tryz.prog w =
  .ok (.slice (some ⟨w.heap.size,0,none⟩) n n) (w.alloc (.cells (aw (am (128*n))) 121)):=by
 obtain⟨i,hi,hz,hs,hb⟩:=info_parts Jh;rw[run_make w 83 121 i _ Tryz.underlying83 hi hz .i64 .i64 _ _ (by omega) (by omega) (by rw[hb];omega) (by omega)];have e1:((n:Int)).toNat=n:=by omega
 rw[e1,hs,show(Value.agg eI).cells=eI from rfl,LT,Nat.mul_comm]
def oM(n:Nat)(w:World)(e:Ending)(w':World):Prop :=
 ∃d L,e=.returned (.pointer (some ⟨d,0,none⟩))/\Turns [] (aD d L) w w'/\DevOk L/\L.n=n/\L.now=am (128*n)/\L.chs=[]
def Ge(n sb nb:Nat):DevL:=⟨n,sb,nb,.slice none 0 0,am (128*n),am (128*n),[]⟩
theorem EL{n:Nat}(hn:n<=1099511627776)(sb nb:Nat):DevOk (Ge n sb nb) :=
 ⟨hn,an _,an _,⟨rfl,fun _=>⟨rfl,rfl⟩⟩,fun c hc=>by simp[Ge]at hc,rfl⟩
theorem Gd{n:Nat}(hn:n<=1099511627776)(w:World)(e:Ending)(he:e=.returned (.pointer (some ⟨w.heap.size+1+1,0,none⟩))):oM n w e
  (((w.alloc (Obj.cells (aw (am (128*n))) 121)).alloc (Obj.cells (aw (am (128*n))) 121)).alloc (Obj.cells #[Value.slice (some { block:=w.heap.size,off:=0 }) n n,Value.slice (some { block:=w.heap.size+1,off:=0 }) n n,Value.slice none 0 0,Value.int IntKind.i64 (-1)] 86)).drew:=by
 refine⟨w.heap.size+1+1,Ge n w.heap.size (w.heap.size+1),he,?_,EL hn _ _,rfl,rfl,rfl⟩;have h:=((((Turns.refl (Sat.nil w)).Q8 (Obj.cells (aw (am (128*n))) 121)).Q8 (Obj.cells (aw (am (128*n))) 121)).Q8 (Obj.cells #[Value.slice (some { block:=w.heap.size,off:=0 }) n n,Value.slice (some { block:=w.heap.size+1,off:=0 }) n n,Value.slice none 0 0,Value.int IntKind.i64 (-1)] 86)).drew;simpa[aD,Ge,bK,Value.ownBlock]using h
theorem Dt{n:Nat}(hn:n<=1099511627776)(w:World)(e:Ending)(he:e=.returned (.pointer (some ⟨w.heap.size+1+1,0,none⟩))):oM n w e
  (((w.alloc (Obj.cells (aw (am (128*n))) 121)).alloc (Obj.cells (aw (am (128*n))) 121)).alloc (Obj.cells #[Value.slice (some { block:=w.heap.size+1,off:=0 }) n n,Value.slice (some { block:=w.heap.size,off:=0 }) n n,Value.slice none 0 0,Value.int IntKind.i64 (-1)] 86)).drew:=by
 refine⟨w.heap.size+1+1,Ge n (w.heap.size+1) w.heap.size,he,?_,EL hn _ _,rfl,rfl,rfl⟩;have h:=((((Turns.refl (Sat.nil w)).Q8 (Obj.cells (aw (am (128*n))) 121)).Q8 (Obj.cells (aw (am (128*n))) 121)).Q8 (Obj.cells #[Value.slice (some { block:=w.heap.size+1,off:=0 }) n n,Value.slice (some { block:=w.heap.size,off:=0 }) n n,Value.slice none 0 0,Value.int IntKind.i64 (-1)] 86)).drew;refine(h.perm (Perm.refl _) ((Perm.swap _ _ _).cons _)).perm (Perm.refl _) ?_;simp[aD,Ge,bK,Value.ownBlock]
theorem mu(n:Nat)(hn:n<=1099511627776)(w:World):Calls Tryz.prog 9 #[.int .i64 n] w (oM n w):=by
 have hmk:=yW n hn;have hp:(0:Int)<=n:=by omega
 go_enter Tryz.func9,Tryz.ntmps9;go_wp2_with fail;go_region
 all_goals
  go_wp2_with fail;go_ret
 ·exact Gd hn w _ rfl
 ·exact Dt hn w _ rfl
theorem pP(c:Nat×Bs)(r:List (Nat×Bs)):bW (c::r)=(Value.int .i64 c.1::c.2.map al)++bW r:=by simp[bW]
theorem yh{l:List (Nat×Bs)}(h:∀c∈l,c.2.length=128)(k:Nat):(bW l).drop (129*k)=bW (l.drop k):=by
 induction k generalizing l with
 | zero=>simp
 | succ k ih =>
  cases l with
  | nil=>simp[bW]
  | cons c r =>
   have h1:=h c (by simp);rw[QD,<- ih (fun x hx=>h x (mem_cons_of_mem _ hx))];rw[pP,drop_append,drop_of_length_le (by simp;omega),nil_append];congr 1;simp;omega
theorem J7{w:World}{g n cap:Nat}{l:List (Nat×Bs)}{k:Nat}(h:w.ownsRow 0 227 129 (.slice (some ⟨g,0,none⟩) n cap) l.length (bW l))(hl:∀c∈l,c.2.length=128)(hk:k<l.length):
  w.rangeAt g (k*129) (Value.int .i64 l[k].1::l[k].2.map al):=fun j v hv=>by
 have hc:=h.cells (g:=g) rfl (k*129+j) v (by
  have e:(bW l)[k*129+j]?=((bW l).drop (129*k))[j]?:=by rw[getElem?_drop,Nat.mul_comm]
  rw[e,yh hl,drop_eq_getElem_cons hk]
  rw[pP,getElem?_append_left (List.getElem?_eq_some_iff.1 hv).1]
  exact hv)
 rwa [Addr.add_mid,Nat.zero_add]at hc
theorem yb{s:Bs}{l:List (Nat×Bs)}{k:Nat}(h:k<l.length):jD s (l.take (k+1))=aZ (jD s (l.take k)) (128*l[k].1) l[k].2:=by
 rw[QH h,pH]
theorem tj{l:List (Nat×Bs)}{n:Nat}:∀{s:Bs},s.length=128*n->(∀c∈l,c.1<n/\c.2.length=128)->(jD s l).length=128*n:=by
 induction l with
 | nil=>intro s h _;exact h
 | cons c r ih =>
  intro s h hl;have h1:=hl c (by simp);exact ih (s:=aZ s (128*c.1) c.2) (by rw[jJ (by omega)];exact h) (fun x hx=>hl x (mem_cons_of_mem _ hx))
theorem J8:(Tryz.prog.info? 227).map (·.size)=some 129:=by kernel_rfl
def ll(d:Nat)(L:DevL)(w:World)(e:Ending)(w':World):Prop :=
 e=.returned .nilIface/\∃L',Turns (aD d L) (aD d L') w w'/\DevOk L'/\L'.n=L.n/\L'.now=L.now/\L'.safe=L.now/\L'.chs=[]
def G3(d:Nat)(L:DevL)(w:World)(i:Value)(wr:World):Prop :=
 ∃k:Nat,k<=L.chs.length/\i=.int .i64 k/\Turns (aD d L) (aD d { L with safe:=jD L.safe (L.chs.take k) }) w wr
def xN:Array Value:=#[.int .i64 0]++eI
theorem vn:xN.size=129:=by kernel_rfl
theorem KU(w:World):(zeroValue 227).run Tryz.prog w=.ok (.agg xN) w:=by kernel_rfl
theorem dr{w:World}{b:Nat}{C:Array Value}{t:TypeId}(h:w.heap[b]?=some (.cells C t (0,0)))(o n:Nat)(hn:o+n<=C.size):w.there b o n:=fun j hj=>by
 rw[aa h (o+j) (Array.getElem?_eq_getElem (by omega))]
 exact⟨rfl,bc h _⟩
theorem fq{w:World}{b:Nat}{C:List Value}{t:TypeId}(h:w.heap[b]?=some (.cells C.toArray t (0,0)))(o:Nat)(vs:List Value)(hn:o+vs.length<=C.length):
  (w.setCells b o vs).heap[b]?=some (.cells (spl C o vs).toArray t (0,0))/\Mods (fun k=>k=b) w (w.setCells b o vs):=by
 induction vs generalizing w C o with
 | nil=>exact⟨by simpa[World.setCells,spl]using h,by simpa[World.setCells]using Mods.refl _ w⟩
 | cons x r ih =>
  simp only[World.setCells];simp only[length_cons]at hn;have h1:=bn h o x;rw[QA]at h1;obtain⟨h2,h3⟩:=ih h1 (o+1) (by rw[length_set];omega);refine⟨h2.trans ?_,((Mods.refl (fun k=>k=b) w).set1 x).trans h3⟩;congr 3;obtain⟨A,y,B,rfl,rfl⟩:∃A y B,C=A++y::B/\A.length=o:=⟨C.take o,C[o],C.drop (o+1),by rw[<- drop_eq_getElem_cons,take_append_drop],by simp;omega⟩;unfold spl;rw[set_append_right _ _ (Nat.le_refl _),Nat.sub_self,QB,take_append,take_append,drop_append,drop_append];simp only[take_of_length_le (show A.length<=A.length+1 by omega),show A.length+1-A.length=1 by omega,Nat.sub_self,take_length,take_zero,append_nil,length_cons];rw[drop_of_length_le (show A.length<=A.length+1+r.length by omega),drop_of_length_le (show A.length<=A.length+(r.length+1) by omega),show A.length+1+r.length-A.length=r.length+1 by omega,show A.length+(r.length+1)-A.length=r.length+1 by omega];simp
theorem dI{w:World}{b:Nat}{C:Array Value}{t:TypeId}(h:w.heap[b]?=some (.cells C t (0,0)))(vs:List Value)(hn:vs.length=C.size):
  (w.setCells b 0 vs).heap[b]?=some (.cells vs.toArray t (0,0))/\Mods (fun k=>k=b) w (w.setCells b 0 vs):=by
 obtain⟨h1,h2⟩:=fq (C:=C.toList) (by simpa using h) 0 vs (by simp;omega);refine⟨h1.trans ?_,h2⟩;congr 3;unfold spl;rw[drop_of_length_le (by simp;omega)];simp
theorem FO{d:Nat}{L:DevL}{w wr:World}(hT:Turns (aD d L) (aD d { L with safe:=L.now }) w wr)(hL:DevOk L):ll d L w (.returned .nilIface) (wr.setCell ⟨d,2,none⟩ (.slice none 0 0)):=by
 have hd:=fw (R:=[]) (by simpa using hT.sat);have h1:=hT.Qa (o:=.cells #[.slice (some ⟨L.sb,0,none⟩) L.n L.n,.slice (some ⟨L.nb,0,none⟩) L.n L.n,.slice none 0 0,.int .i64 (-1)] 86 (0,0)) ((Mods.refl _ wr).set1 _) ((bn hd 2 (.slice none 0 0)).trans (by simp));refine⟨rfl,{ L with safe:=L.now,chv:=.slice none 0 0,chs:=[] },?_,⟨hL.hn,hL.nowL,hL.nowL,⟨rfl,fun _=>⟨rfl,rfl⟩⟩,fun c hc=>by simp at hc,rfl⟩,rfl,rfl,rfl,rfl⟩;refine Turns.left (H:=bK 227 129 L.chv L.chs.length (bW L.chs)) ?_;exact h1
theorem jm(d:Nat)(L:DevL)(w:World)(h:Sat w (aD d L))(hL:DevOk L)(hc:L.chs.length<=1099511627776):
  Calls Tryz.prog 70 #[.pointer (some ⟨d,0,none⟩)] w (ll d L w):=by
 have hd:=fw (R:=[]) (by simpa using h);have c2:=aa hd 2 (v:=L.chv) (by simp);have HO:=qqH (qX d L w h);have hown:=aR h.tail.tail.tail hL.row;have H:=Hq3 h hd hL
 obtain⟨a,cap,hv⟩:∃a cap,L.chv=.slice a L.chs.length cap:=by
  rcases hown.2 with⟨h1,h2⟩|⟨g,cp,cur,h1,_⟩
  ·exact⟨none,0,by rw[h1,h2]⟩
  ·exact⟨_,cp,h1⟩
 rw[hv]at c2;have HV:=qqH hv;clear h hd hL hown hv;go_enter Tryz.func70,Tryz.ntmps70;go_wp2_with fail;refine HO.out.mono ?_;rintro e w1 ⟨rfl,rfl⟩;go_wp2_with fail;go_loopw [15] (fun i wr=>G3 d L w i wr) (fun i _=>L.chs.length-(intOf i).toNat)
 case atStart=>exact⟨0,Nat.zero_le _,rfl,Turns.refl H.a⟩
 case round =>
  obtain⟨k,hk,rfl,hT⟩:=hrel;by_cases hlt:k<L.chs.length
  ·have hown:wr.ownsRow 0 227 129 L.chv L.chs.length (bW L.chs):=aR hT.sat.tail.tail.tail H.y.row;rw[HV.out]at hown;have hel:=H.y.chs L.chs[k] (getElem_mem hlt)
   have ha:∃g,a=some ⟨g,0,none⟩:=by
    rcases hown.2 with⟨h1,h2⟩|⟨g,cp,cur,h1,_⟩
    ·omega
    ·simp only[Value.slice.injEq]at h1;exact⟨g,h1.1⟩
   obtain⟨g,rfl⟩:=ha;have hr:=J7 hown (fun c hc=>(H.y.chs c hc).2) hlt;have hsl:=tj (l:=L.chs.take k) H.y.safeL (fun c hc=>H.y.chs c (mem_of_mem_take hc));have hap:=yb (s:=L.safe) hlt;have hd:=fw (R:=[]) (by simpa using hT.sat);have hsafe:=wM (R:=[]) (by simpa using hT.sat);have c0:=aa hd 0 (v:=.slice (some ⟨L.sb,0,none⟩) L.n L.n) (by simp);have hdl:d<wr.heap.size:=ae hd;generalize L.chs[k]=c at *
   obtain⟨at_,s⟩:=c;simp only at hel hr hap;obtain⟨hat,hsz⟩:=hel;have hz:=KU;have hrl:(Tryz.prog.info? 227).map (·.size)=some (Value.int .i64 at_::s.map al).length:=by rw[J8];simp[hsz]
   have h1c:(Value.int .i64 at_::s.map al).toArray.all (·.oneCell')=true:=all_oneCell_toArray (fun u hu=>by
    rcases mem_cons.1 hu with rfl|hu
    ·rfl
    ·exact dW s u hu)
   have hin:(at_:Int)<(L.n:Int):=by omega
   have HR:=Hq8 hT hr hap hsafe hrl h1c hsz hsl;clear hT hr hap hsafe hrl h1c hown hd hsl;go_wp2_with (first|(refine wpList_load_mid rfl 227 (.tmp 17) rfl g (k*129) rfl (Value.int .i64 at_::s.map al) _ ?c1 Tryz.underlying227 rfl HR.e ?_)|(refine wpList_store_mid rfl 227 (.tmp 4) (.tmp 18) rfl wr.heap.size 0 (Value.int .i64 at_::s.map al).toArray rfl rfl ?c2 (by rw[size_toArray];exact HR.e) HR.f ?_))
   case c1=>exact HR.b
   case c2=>exact dr (aK wr _) 0 _ (by rw[vn];first|omega|simp[HR.g])
   obtain⟨hb2,hm2⟩:=dI (aK wr (.cells xN 227)) (Value.int .i64 at_::s.map al) (by rw[vn];simp[HR.g]);generalize hB:wr.heap.size=B at *
   have hs2:aQ wr ((wr.alloc (.cells xN 227)).setCells B 0 (Value.int .i64 at_::s.map al)):=((Mods.refl _ wr).alloc _).trans' hm2 (fun i hi=>.inr (by omega));show Code.wp _ _ _ _ ((wr.alloc (.cells xN 227)).setCells B 0 (Value.int .i64 at_::s.map al));generalize (wr.alloc (.cells xN 227)).setCells B 0 (Value.int .i64 at_::s.map al)=w2 at hb2 hs2 ⊢;have hT2:=HR.a.Q9 hs2;have hd2:=fw (R:=[]) (by simpa using hT2.sat);have e0:=aa hd2 0 (v:=.slice (some ⟨L.sb,0,none⟩) L.n L.n) (by simp);have e1:=aa hb2 0 (v:=.int .i64 at_) (by simp);have hsf2:=wM (R:=[]) (by simpa using hT2.sat);have hr2:w2.rangeAt B 1 (s.map al):=fun j v hv=>aa hb2 (1+j) (by simpa[Nat.add_comm 1]using hv)
   have H2:=Hq3 hT2 hsf2 hr2;clear hT2 hsf2 hr2 hb2 hm2 hs2 c0 hd2;refine wp_region_still_tail 9 HM.out (by kernel_rfl) ?_;simp only[QE,take_zero,QD,drop_zero];iterate 7 still_step
   refine cw rfl 121 (.tmp 25) rfl B 1 rfl (s.map al) _ H2.y Tryz.underlying121 rfl (iC HR.g) ?_;repeat still_step
   refine wpStill_nil ?_;change wpList _ _ _ _ _ w2.drew;go_wp2_with (refine wpList_store_mid rfl 121 (.tmp 27) (.tmp 26) rfl L.sb (at_*128) (aw s) rfl rfl ?c3 (iD HR.g) (c9 _) ?_)
   case c3=>exact fL H2.b _ _ (by rw[bN,HR.g,HR.t];omega)
   obtain⟨hp1,hp2⟩:=mh (w:=w2.drew) H2.b (at_*128) s (by rw[HR.g,HR.t];omega);refine⟨⟨k+1,by omega,by go_num,?_⟩,by simp[intOf];omega⟩;have:=(H2.a.drew).trans (yu (H2.a.drew).sat hp2 hp1);rw[HR.c,Nat.mul_comm 128];exact this
  ·obtain rfl:k=L.chs.length:=by omega
   rw[take_length,H.y.now]at hT;have hd:=fw (R:=[]) (by simpa using hT.sat);have k2:=aa hd 2 (v:=L.chv) (by simp);rw[HV.out]at k2;have f2:=bc hd 2;have HE:=qqH (FO hT H.y);clear hd hT;go_wp2_with fail;go_ret;exact HE.out
end
section
open Go.RowKit Go.Maps
open Go.ChangeMaps (setBlock)
theorem A5{κ:Type}[DecidableEq κ]{P:Program}{k t ev:TypeId}{enc:κ->Value}{Ok:κ->Prop}(E:EncOk P k enc Ok){w:World}{o:Oper}{a:Act}(m x:Operand)(hop:o.op=.lookup t m x false)(ht:P.underlying t=some (.map k ev)){b:Nat}{l:List (Ent κ)}{c:Nat}(hb:w.heap[b]?=some (aO enc l c))(hm:MapOk Ok l c){z:Value}(hz:(zeroValue ev).run P w=.ok z w)(key:κ)(hmv:a.eval m=.map (some b))(hx:a.eval x=enc key)(hk:Ok key):(execOp a.eval o).run P w=.ok (.value ((dz l key).getD z)) w:=by
 simp[execOp,hop,hmv,hx,uJ E ht hb hm hz hk,Result.andThen]
theorem i8{P:Program}{o:Oper}{a:Act}{w a0:World}{K:Act->World->Prop}{Q:Exit->Act->World->Prop}{F G:HF}(O:Obj)(f:Nat->Value)(hr:(execOp a.eval o).run P w=.ok (.value (f w.heap.size)) (w.alloc O))(hT:Turns F G a0 w)(hk:∀n w',Turns F ((n,Is O)::G) a0 w'->K (a.put o.dst (f n)) w'):o.wp P a w K Q:=nA hr (hk _ _ (hT.Q8 O))
theorem KR{κ:Type}[DecidableEq κ]{P:Program}{k t ev:TypeId}{enc:κ->Value}{Ok:κ->Prop}(E:EncOk P k enc Ok){w:World}{o:Oper}{a:Act}{K:Act->World->Prop}{Q:Exit->Act->World->Prop}(m x y:Operand)(hop:o.op=.mapUpdate t m x y)(ht:P.underlying t=some (.map k ev)){b:Nat}{l:List (Ent κ)}{c:Nat}(hb:w.heap[b]?=some (aO enc l c))(hm:MapOk Ok l c)(key:κ)(v:Value)(hmv:a.eval m=.map (some b))(hx:a.eval x=enc key)(hy:a.eval y=v)(hk:Ok key)(hK:K (a.put o.dst undef) (setBlock w b (aO enc (gF l c key v) (cf l c key)))):o.wp P a w K Q:=by
 unfold Oper.wp execOp;simp only[hop,hmv,hx,hy,Sem.run_bind,Gw E ht hb hm hk v,Result.andThen_ok,Sem.run_pure];exact hK
theorem Ju{P:Program}{o:Oper}{a:Act}{w:World}{K:Act->World->Prop}{Q:Exit->Act->World->Prop}{ty:TypeId}(x y:Operand)(hs:(P.info? ty).map (·.size)=some 1)(ho:o.op=.store ty x y){b i:Nat}{C:Array Value}{t:TypeId}{v u:Value}(hb:w.heap[b]?=some (.cells C t (0,0)))(hi:C[i]?=some u)(hx:a.eval x=.pointer (some ⟨b,i,none⟩))(hy:a.eval y=v)(h1:v.oneCell'=true)(hvc:v.cells=#[v])(hK:K (a.put o.dst undef) (w.setCell ⟨b,i,none⟩ v)):o.wp P a w K Q:=by
 have hc:w.cell? ⟨b,i,none⟩=some u:=aa hb i hi;have hf:=bc hb i
 have hst:=run_storeCells_cells (P:=P) b i [v] 0 w (fun j hj=>by
  obtain rfl:j=0:=by simp at hj;omega
  simp[hc]) (fun j hj=>by
   obtain rfl:j=0:=by simp at hj;omega
   simpa using hf) (fun q hq=>by simp at hq;subst hq;exact h1)
 have hsv:(storeVar ty ⟨b,i,none⟩ v).run P w=.ok () (w.setCell ⟨b,i,none⟩ v):=by
  cases hq:P.info? ty with
  | none=>simp[hq]at hs
  | some j =>
   have hj:j.size=1:=by simpa[hq]using hs
   simp only[Nat.add_zero]at hst;simp[storeVar,sizeOf,typeInfo,hq,hvc,hj,hst,World.setCells]
 unfold Oper.wp execOp;simp only[ho,hx,hy,Instr.storeAt,Instr.sureAddr,Sem.run_bind,Sem.run_pure,Result.andThen_ok,hsv];exact hK
section
variable {P:Program} {o:Oper} {a:Act} {w:World} {K:Act->World->Prop} {Q:Exit->Act->World->Prop} {F G:HF} {a0:World}
theorem ny(ty:TypeId)(x y:Operand)(ho:o.op=.store ty x y)(b:Nat)(old cells:Array Value)(t:TypeId)(hT:Turns F ((b,Is (.cells old t (0,0)))::G) a0 w)(hx:a.eval x=.pointer (some ⟨b,0,none⟩))(hy:a.eval y=.agg cells)(hsz:cells.size=old.size)(hi:(P.info? ty).map (·.size)=some cells.size)(h1:cells.all (·.oneCell')=true)(hk:∀w',Turns F ((b,Is (.cells cells t (0,0)))::G) a0 w'->K (a.put o.dst undef) w'):o.wp P a w K Q:=by
 have hb:=hT.sat.Q5;obtain⟨q1,q2⟩:=dI hb cells.toList (by simpa using hsz);refine wp_store_mid ty x y ho b 0 cells hx hy (dr hb 0 _ (by omega)) hi h1 (hk _ (hT.Qa q2 (by simpa using q1)))
theorem bb(ty:TypeId)(x y:Operand)(ho:o.op=.store ty x y)(b i:Nat)(C:Array Value)(t:TypeId)(v:Value)(hT:Turns F ((b,Is (.cells C t (0,0)))::G) a0 w)(hx:a.eval x=.pointer (some ⟨b,i,none⟩))(hy:a.eval y=v)(hiC:i<C.size)(hi:(P.info? ty).map (·.size)=some 1)(h1:v.oneCell'=true)(hvc:v.cells=#[v])(hk:∀w',Turns F ((b,Is (.cells (C.setIfInBounds i v) t (0,0)))::G) a0 w'->K (a.put o.dst undef) w'):o.wp P a w K Q:=by
 have hb:=hT.sat.Q5;exact Ju x y hi ho hb (Array.getElem?_eq_getElem hiC) hx hy h1 hvc (hk _ (hT.Qa ((Mods.refl (fun k=>k=b) w).set1 v) (bn hb i v)))
theorem lF{κ:Type}[DecidableEq κ]{k t ev:TypeId}{enc:κ->Value}{Ok:κ->Prop}(E:EncOk P k enc Ok)(m x y:Operand)(ho:o.op=.mapUpdate t m x y)(ht:P.underlying t=some (.map k ev))(b:Nat)(l:List (Ent κ))(c:Nat)(hT:Turns F ((b,Is (aO enc l c))::G) a0 w)(hm:MapOk Ok l c)(key:κ)(v:Value)(hmv:a.eval m=.map (some b))(hx:a.eval x=enc key)(hy:a.eval y=v)(hk:Ok key)(hK:∀w',Turns F ((b,Is (aO enc (gF l c key v) (cf l c key)))::G) a0 w'->K (a.put o.dst undef) w'):o.wp P a w K Q:=by
 have hb:=hT.sat.Q5;refine KR E m x y ho ht hb hm key v hmv hx hy hk ?_;exact hK _ (hT.Qa (dg _ _ _) (ey hb))
theorem vg(t:TypeId)(ho:o.op=.makeMap t none)(hT:Turns F G a0 w)(hk:∀n w',Turns F ((n,Is (.map #[] 0))::G) a0 w'->K (a.put o.dst (.map (some n))) w'):o.wp P a w K Q:=by
 refine nA (v:=.map (some w.heap.size)) (w':=w.alloc (.map #[] 0)) ?_ (hk _ _ (hT.Q8 _));simp[execOp,ho,run_makeMap,Result.andThen]
theorem Jt{κ:Type}[DecidableEq κ]{k t ev:TypeId}{enc:κ->Value}{Ok:κ->Prop}(E:EncOk P k enc Ok)(m x:Operand)(ho:o.op=.mapEntry t m x)(ht:P.underlying t=some (.map k ev))(b:Nat)(l:List (Ent κ))(c:Nat)(hT:Turns F ((b,Is (aO enc l c))::G) a0 w)(hm:MapOk Ok l c){z:Value}(hz:(zeroValue ev).run P w=.ok z w)(key:κ)(hmv:a.eval m=.map (some b))(hx:a.eval x=enc key)(hk:Ok key)(hK:∀w',Turns F ((b,Is (aO enc (A7 l c key z) (cf l c key)))::G) a0 w'->K (a.put o.dst (.tuple #[(dz l key).getD z,.int .i64 (pN l c key)])) w'):o.wp P a w K Q:=by
 have hb:=hT.sat.Q5;refine nA (v:=.tuple #[(dz l key).getD z,.int .i64 (pN l c key)]) (w':=setBlock w b (aO enc (A7 l c key z) (cf l c key))) ?_ (hK _ (hT.Qa (dg _ _ _) (ey hb)));simp[execOp,ho,hmv,hx,(xz E ht hb hm hz hk).1,Result.andThen]
theorem we{κ:Type}[DecidableEq κ]{k t ev:TypeId}{enc:κ->Value}{Ok:κ->Prop}(E:EncOk P k enc Ok){w0:World}(m s x:Operand)(ho:o.op=.entryStore t m s x)(ht:P.underlying t=some (.map k ev))(b:Nat)(l:List (Ent κ))(c:Nat)(hb0:w0.heap[b]?=some (aO enc l c))(hm:MapOk Ok l c){z:Value}(hz:(zeroValue ev).run P w0=.ok z w0)(key:κ)(hk:Ok key)(hT:Turns F ((b,Is (aO enc (A7 l c key z) (cf l c key)))::G) a0 w)(v:Value)(hmv:a.eval m=.map (some b))(hs:a.eval s=.int .i64 (pN l c key))(hx:a.eval x=v)(hK:∀w',Turns F ((b,Is (aO enc (gF l c key v) (cf l c key)))::G) a0 w'->K (a.put o.dst undef) w'):o.wp P a w K Q:=by
 have hb:=hT.sat.Q5;have hr:=hK _ (hT.Qa (o:=aO enc (gF l c key v) (cf l c key)) (dg _ _ _) (ey hb));unfold Oper.wp execOp;simp only[ho,hmv,hs,hx,Sem.run_bind,(xz E ht hb0 hm hz hk).2 w v hb,Result.andThen_ok,Sem.run_pure];exact hr
theorem iL{ops:Array Oper}{R:Act->Prop}{r:List Oper}(ty:TypeId)(x:Operand)(hg:o.guard=none)(ho:o.op=.load ty x)(b i:Nat)(hx:a.eval x=.pointer (some ⟨b,i,none⟩))(cs:List Value)(d:TypeDesc)(hc:w.rangeAt b i cs)(hu:P.underlying ty=some d)(hd:d.isRow=true)(hi:(P.info? ty).map (·.size)=some cs.length)(hk:wpStill P ops w R r (a.put o.dst (.agg cs.toArray))):wpStill P ops w R (o::r) a:=by
 refine eG hg ?_ hk;unfold execOp;simp only[ho,hx,Instr.loadAt,Instr.sureAddr,Sem.run_bind,Sem.run_pure,Result.andThen_ok,run_loadVar_mid w b i ty cs d hc hu hd hi]
end
end
section
open Go.RowKit
theorem uS{P:Program}{main:Bool}{b:Frame}{a:Act}{k:List Item}{cs:List Frame}{w w':World}{ops:Array Oper}{i:Nat}{rest:List Nat}{o:Oper}{cases:Array CommCase}{blocking:Bool}{shape:CommShape}(ho:ops[i]?=some o)(hw:Region.wanted o (yielded ops a.tmps)=true)(hr:(execOp a.eval o).run P w=.ok (.comm cases blocking shape) w'):
  ∃es,stepG P main (Conc.G (b.at a (.inRegion ops (i::rest)::k)) cs) w=.comm (Conc.G (b.at a (.inRegion ops (i::rest)::k)) cs) cases blocking shape w' es:=by
 rw[Conc.stepG_oper ho hw]
 cases main<;>simp[stepG.apply,hr,Conc.G,Frame.at,GStep.after]
theorem iK{P:Program}{id n:Nat}{ops:Array Oper}{Q:Exit->Act->World->Prop}{a:Act}{w w1 w':World}{o:Oper}{cases:Array CommCase}{v:Value}(hsz:ops.size=n+1)(ho:ops[0]?=some o)(hg:o.guard=none)(hr:(execOp a.eval o).run P w=.ok (.comm cases false .select) w1)(hstep:∀fr cs es,stepG P true (Conc.G fr cs) w=.comm (Conc.G fr cs) cases false .select w1 es->step P (Conc.solo (Conc.G fr cs) w)=.next (Conc.solo (Conc.G (fr.finish v) cs) w'))(h:wpList P ops Q (ops.toList.drop 1) (a.put o.dst v) w'):(Code.region id ops false).wp P Q a w:=by
 intro b k cs;have hl:range ops.size=0::range' 1 n:=by rw[hsz,range_eq_range',range'_succ]
 have h2:wpOps P ops Q (range' 1 n) (a.put o.dst v) w':=by
  have e:=wpOps_eq_wpList (P:=P) (ops:=ops) (Q:=Q) (ops.toList.drop 1) 1 (fun j=>by rw[getElem?_drop];simp);have hn:(ops.toList.drop 1).length=n:=by simp;omega
  rw[hn]at e;rw[e];exact h
 obtain⟨e,a',w'',hq,harr⟩:=wp_ops _ _ _ h2 b k cs;refine⟨e,a',w'',hq,.of_steps (.head step_region (.one ?_)) harr⟩;rw[hl];obtain⟨es,hes⟩:=uS (P:=P) (main:=true) (b:=b) (a:=a) (k:=k) (cs:=cs) (w:=w) (rest:=range' 1 n) ho (by simp[Region.wanted,hg]) hr;have:=hstep _ _ _ hes;rw[Frame.finish_at,ho]at this;exact this
theorem vl{P:Program}{id n:Nat}{ops:Array Oper}{Q:Exit->Act->World->Prop}{a:Act}{w:World}{o:Oper}{c cap s r:Nat}{buf:Array Value}{closed tm:Bool}{z:Value}(hsz:ops.size=n+1)(ho:ops[0]?=some o)(hg:o.guard=none)(hr:(execOp a.eval o).run P w=.ok (.comm #[Conc.rcase c z] false .select) w)(hc:w.heap[c]?=some (.chan cap buf closed s r tm))(hb:0<buf.size)(h:wpList P ops Q (ops.toList.drop 1) (a.put o.dst (.tuple #[goInt 0,.bool true,buf.getD 0 undef])) (w.setChan c cap (buf.extract 1 buf.size) closed s (r+1) tm)):(Code.region id ops false).wp P Q a w :=
 iK hsz ho hg hr (fun _ _ _ hs=>Conc.step_lone_select_recv_buf hs hc hb) h
theorem vk{P:Program}{id n:Nat}{ops:Array Oper}{Q:Exit->Act->World->Prop}{a:Act}{w:World}{o:Oper}{c cap s r:Nat}{tm:Bool}{z:Value}(hsz:ops.size=n+1)(ho:ops[0]?=some o)(hg:o.guard=none)(hr:(execOp a.eval o).run P w=.ok (.comm #[Conc.rcase c z] false .select) w)(hc:w.heap[c]?=some (.chan cap #[] false s r tm))(h:wpList P ops Q (ops.toList.drop 1) (a.put o.dst (.tuple #[goInt (-1),.bool false,z])) w):(Code.region id ops false).wp P Q a w :=
 iK hsz ho hg hr (fun _ _ _ hs=>Conc.step_lone_select_default hs hc) h
theorem vm{P:Program}{id n:Nat}{ops:Array Oper}{Q:Exit->Act->World->Prop}{a:Act}{w:World}{o:Oper}{c cap s r:Nat}{buf:Array Value}{tm:Bool}{v z:Value}(hsz:ops.size=n+1)(ho:ops[0]?=some o)(hg:o.guard=none)(hr:(execOp a.eval o).run P w=.ok (.comm #[Conc.scase c v z] false .select) w)(hc:w.heap[c]?=some (.chan cap buf false s r tm))(hb:buf.size<cap)(h:wpList P ops Q (ops.toList.drop 1) (a.put o.dst (.tuple #[goInt 0,.bool false])) (w.setChan c cap (buf.push v) false (s+1) r tm)):(Code.region id ops false).wp P Q a w :=
 iK hsz ho hg hr (fun _ _ _ hs=>Conc.step_lone_select_send_room hs hc hb) h
theorem vj{P:Program}{id n:Nat}{ops:Array Oper}{Q:Exit->Act->World->Prop}{a:Act}{w:World}{o:Oper}{c cap s r:Nat}{buf:Array Value}{tm:Bool}{v z:Value}(hsz:ops.size=n+1)(ho:ops[0]?=some o)(hg:o.guard=none)(hr:(execOp a.eval o).run P w=.ok (.comm #[Conc.scase c v z] false .select) w)(hc:w.heap[c]?=some (.chan cap buf false s r tm))(hb:cap<=buf.size)(h:wpList P ops Q (ops.toList.drop 1) (a.put o.dst (.tuple #[goInt (-1),.bool false])) w):(Code.region id ops false).wp P Q a w :=
 iK hsz ho hg hr (fun _ _ _ hs=>Conc.step_lone_select_send_full hs hc hb) h
theorem bV{P:Program}{ops:Array Oper}{rest:List Oper}{o:Oper}{a:Act}{w:World}{Q:Exit->Act->World->Prop}(hg:o.guard=none)(t:TypeId)(parts:Array (Nat×Operand))(ho:o.op=.build t parts)(cells:Array Value)(hc:P.built t (parts.map fun(i,x)=>(i,a.eval x)).toList=some cells)(h:wpList P ops Q rest (a.put o.dst (.agg cells)) w):wpList P ops Q (o::rest) a w :=
 wpList_plain hg fun _ hK=>kS t parts ho cells hc (hK _ _ h)
structure AreaL where
 first:Nat
 count:Nat
 end_:Nat
 tail:Bs
 ch:Nat
 spare:List (Nat×Nat×Nat)
def ft(s:Nat×Nat×Nat):Value:=.slice (some ⟨s.1,0,none⟩) s.2.1 s.2.2
def mj(l:List (Nat×Nat×Nat)):HF:=l.map fun s=>(s.1,fun o=>∃cur:Array Value,o=.cells cur 5 (0,0)/\cur.size=s.2.2)
def aG(d:Nat)(A:AreaL):Array Value:=#[.pointer (some ⟨d,0,none⟩),.int .i64 A.first,.int .i64 A.count,.int .i64 A.end_]++aw A.tail++#[.chan (some A.ch)]
def ap(ab d:Nat)(A:AreaL):HF :=
 (ab,Is (.cells (aG d A) 124 (0,0)))::(A.ch,fun o=>∃s r,o=.chan 2 (A.spare.map ft).toArray false s r false)::mj A.spare
structure AreaOk (A:AreaL):Prop where
 tail:A.tail.length=128
 few:A.spare.length<=2
 caps:∀s∈A.spare,s.2.1<=s.2.2/\s.2.2<=maxLen
def Eg:Array Value:=#[.pointer none,.int .i64 0,.int .i64 0,.int .i64 0]++aw (am 128)++#[.chan none]
def mG(d:Nat)(first count:Nat)(w:World)(e:Ending)(w':World):Prop :=
 ∃ab ch,e=.returned (.pointer (some ⟨ab,0,none⟩))/\Turns [] (ap ab d ⟨first,count,0,am 128,ch,[]⟩) w w'
theorem GT:Eg=(Value.pointer none :: .int .i64 0 :: .int .i64 0 :: .int .i64 0::((am 128).map al++[Value.chan none])).toArray:=by
 simp[Eg,aw]
theorem CT(p a b c:Value)(hp:p.cells=#[p])(ha:a.cells=#[a])(hb:b.cells=#[b])(hc:c.cells=#[c]):
  Tryz.prog.built 124 [(0,p),(1,a),(2,b),(5,c)]=some (#[p,a,b,.int .i64 0]++aw (am 128)++#[c]):=by
 have e:Tryz.prog.built 124 [(0,p),(1,a),(2,b),(5,c)]=Instr.fill (#[(0,1),(1,1),(2,1),(3,1),(4,128),(132,1)][·]?) Eg [(0,p),(1,a),(2,b),(5,c)]:=by kernel_rfl
 rw[e,GT];have hz:((am 128).map al).length=128:=by rw[length_map,an]
 have hr:aw (am 128)=((am 128).map al).toArray:=rfl;rw[hr];generalize (am 128).map al=Z at hz ⊢;rw[jS _ _ 0 p 0 1 _ rfl (by rw[hp];rfl) (by simp)];rw[jS _ _ 1 a 1 1 _ rfl (by rw[ha];rfl) (by simp[spl,hp])];rw[jS _ _ 2 b 2 1 _ rfl (by rw[hb];rfl) (by simp[spl,hp,ha])]
 have e3:spl (spl (spl (Value.pointer none :: .int .i64 0 :: .int .i64 0 :: .int .i64 0::(Z++[Value.chan none])) 0 p.cells.toList) 1 a.cells.toList) 2 b.cells.toList=p::a::b :: .int .i64 0::(Z++[Value.chan none]):=by
  simp[spl,hp,ha,hb]
 rw[e3,jS _ _ 5 c 132 1 _ rfl (by rw[hc];rfl) (by simp[hz])]
 have e4:spl (p::a::b::Value.int .i64 0::(Z++[Value.chan none])) 132 c.cells.toList=p::a::b :: .int .i64 0::(Z++[c]):=by
  have:(132:Nat)=Z.length+4:=by omega
  simp[spl,hc,this]
 rw[e4];simp[Instr.fill]
theorem LA:(Tryz.prog.info? 35).map (fun i=>i.bytes)=some 24:=by kernel_rfl
theorem LE(w:World):(Instr.makeChan 122 (.int .i64 2)).run Tryz.prog w=.ok (.chan (some w.heap.size)) (w.alloc (.chan 2 #[] false 0 0 false)):=by
 have h:=LA
 cases hi:Tryz.prog.info? 35 with
 | none=>rw[hi]at h;simp at h
 | some i =>
  rw[hi]at h;have hb:i.bytes=24:=by simpa using h
  simpa using Conc.run_makeChan (P:=Tryz.prog) (w:=w) Tryz.underlying122 hi .i64 2 (by omega) (by rw[hb];omega)
theorem vw(d first count:Nat)(w:World):Calls Tryz.prog 112 #[.pointer (some ⟨d,0,none⟩),.int .i64 first,.int .i64 count] w (mG d first count w):=by
 have hm:=LE;have hb:=CT (.pointer (some ⟨d,0,none⟩)) (.int .i64 first) (.int .i64 count) (.chan (some w.heap.size)) rfl rfl rfl rfl;have HB:Hid (Tryz.prog.built 124 [(0,.pointer (some ⟨d,0,none⟩)),(1,.int .i64 first),(2,.int .i64 count),(5,.chan (some w.heap.size))]=some (aG d ⟨first,count,0,am 128,w.heap.size,[]⟩)):=qqH hb;clear hb;go_enter Tryz.func112,Tryz.ntmps112;go_wp2_with (refine bV rfl 124 _ rfl (aG d ⟨first,count,0,am 128,w.heap.size,[]⟩) (by simp only[map_toArray,map_cons,map_nil];exact HB.out) ?_);go_ret;refine⟨w.heap.size+1,w.heap.size,rfl,?_⟩;show Turns [] _ w ((w.alloc (.chan 2 #[] false 0 0 false)).alloc (.cells (aG d ⟨first,count,0,am 128,w.heap.size,[]⟩) 124));have h:=((Turns.refl (Sat.nil w)).Qe (φ:=fun o=>∃s r,o=.chan 2 #[] false s r false) (o:=.chan 2 #[] false 0 0 false) ⟨0,0,rfl⟩).Q8 (.cells (aG d ⟨first,count,0,am 128,w.heap.size,[]⟩) 124);simp only[World.size_alloc]at h;exact h
theorem ib{w w':World}(hs:aQ w w'){a:Addr}{v:Value}(h:w.cell? a=some v):w'.cell? a=some v:=(World.cell?_of_block (w:=w) (hs.block a.block (World.block_lt_of_cell? w _ h) id)).trans h
theorem D4{w w':World}(hs:aQ w w'){b o n:Nat}(h:w.there b o n):w'.there b o n:=fun j hj=>by
 obtain⟨h1,h2⟩:=h j hj
 obtain⟨u,hu⟩:=Option.isSome_iff_exists.1 h1
 have hb:=World.block_lt_of_cell? w _ hu
 have he:=hs.block b hb id
 exact⟨by rw[ib hs hu];rfl,by rw[<- h2];simp[World.frozen?,he]⟩
theorem Mf{wr w2:World}(hs:aQ wr w2){s:Bs}(hl:s.length=128):((w2.alloc (.cells eI 121)).setCells w2.heap.size 0 (s.map al)).heap[w2.heap.size]?=some (.cells (aw s) 121 (0,0)) /\
  aQ wr ((w2.alloc (.cells eI 121)).setCells w2.heap.size 0 (s.map al)):=by
 obtain⟨h1,h2⟩:=dJ (aK w2 (.cells (aw (am 128)) 121)) (s:=s) (by rw[hl,an]);exact⟨h1,((hs.alloc _)).trans' h2 (fun i hi=>.inr (by have:=hs.size;omega))⟩
theorem Mg{wr w2:World}(hs:aQ (wr.alloc (.cells eI 121)) w2){s:Bs}(hl:s.length=128):(w2.setCells wr.heap.size 0 (s.map al)).heap[wr.heap.size]?=some (.cells (aw s) 121 (0,0)) /\
  aQ wr (w2.setCells wr.heap.size 0 (s.map al)):=by
 have h0:w2.heap[wr.heap.size]?=some (.cells (aw (am 128)) 121 (0,0)):=hs.at (aK wr _) id;obtain⟨h1,h2⟩:=dJ h0 (s:=s) (by rw[hl,an]);exact⟨h1,((((Mods.refl _ wr).alloc _).trans' hs (fun i hi=>hi.elim))).trans' h2 (fun i hi=>.inr (by omega))⟩
theorem sE{W:World}{b o:Nat}{vs:List Value}{a:Addr}{v:Value}(hne:a.block≠b)(h:W.cell? a=some v):(W.setCells b o vs).cell? a=some v :=
 (World.cell?_setCells_out b vs o W a (fun hb _=>absurd hb.symm hne.symm)).trans h
theorem ik{w:World}{ab d:Nat}{A:AreaL}{R:HF}(h:Sat w (ap ab d A++R)):w.heap[ab]?=some (.cells (aG d A) 124 (0,0)):=by exact h.Q5
theorem lK(d:Nat)(A:AreaL):(aG d A)[0]?=some (.pointer (some ⟨d,0,none⟩)):=by simp[aG,Array.getElem?_append]
theorem lL(d:Nat)(A:AreaL):(aG d A)[1]?=some (.int .i64 A.first):=by simp[aG,Array.getElem?_append]
theorem sD(d:Nat)(A:AreaL):(aG d A)[2]?=some (.int .i64 A.count):=by simp[aG,Array.getElem?_append]
theorem nJ(d:Nat)(A:AreaL):(aG d A)[3]?=some (.int .i64 A.end_):=by simp[aG,Array.getElem?_append]
def aC(l:Bs)(first count:Nat):Bs:=(l.drop (128*first)).take (128*count)
theorem AI{l:Bs}{n first k:Nat}(_:l.length=128*n)(_:first+k<n):aC l first (k+1)=aC l first k++aM l (first+k):=by
 unfold aC aM;rw[Nat.mul_add 128 k 1,take_add,drop_drop];congr 2
 ·congr 1;omega
theorem fH{l:Bs}{n first k:Nat}(hl:l.length=128*n)(h:first+k<=n):(aC l first k).length=128*k:=by
 unfold aC;simp;omega
def JA(l:Bs)(w:World)(e:Ending)(w':World):Prop:=∃v,e=.returned (.tuple #[v,.nilIface])/\bOk v l/\Turns [] (aA v l) w w'
def La(_ _:Nat)(A:AreaL)(L:DevL)(w:World)(v i:Value)(wr:World):Prop :=
 ∃k:Nat,k<=A.count/\i=.int .i64 k/\bOk v (aC L.now A.first k)/\Turns [] (aA v (aC L.now A.first k)) w wr
theorem qE(ab d:Nat)(A:AreaL)(L:DevL)(w:World)(h:Sat w (ap ab d A++aD d L))(hL:DevOk L)(hA:A.first+A.count<=L.n)(hn:L.n<=1073741824):
  Calls Tryz.prog 82 #[.pointer (some ⟨ab,0,none⟩)] w (JA (aC L.now A.first A.count) w):=by
 have hab:=ik h;have a0:=aa hab 0 (lK d A);have a1:=aa hab 1 (lL d A);have a2:=aa hab 2 (sD d A);have hal:ab<w.heap.size:=ae hab;have H:=Hq3 h hL hab;clear h hL hab;go_enter Tryz.func82,Tryz.ntmps82;go_wp2_with fail;clear a0 a1 a2;go_loopw [4,12] (fun v i wr=>La ab d A L w v i wr) (fun _ i _=>A.count-(intOf i).toNat)
 case atStart=>exact⟨0,Nat.zero_le _,rfl,by simpa[aC]using fi,by simpa[aC,lp]using Turns.refl (Sat.nil w)⟩
 case round =>
  obtain⟨k,hk,rfl,hok,hT⟩:=hrel;by_cases hlt:k<A.count
  ·have hs:=hT.news;have hab:=hs.mods (fun _=>False) |>.at (ik H.a) id
   have a0:=aa hab 0 (lK d A);have a1:=aa hab 1 (lL d A);have hal:ab<wr.heap.size:=ae hab;have hz:=nY;have HR:=Hq4 hok hT hs hab;clear hok hT hs hab;have HC:Hid (∀W:World,aQ w W->Calls Tryz.prog 115 #[.pointer (some ⟨d,0,none⟩),.int .i64 ((A.first:Int)+k)] W (jZ L (A.first+k) W)):=qqH (fun W hW=>lI d L (A.first+k) W (H.a.right.same hW) H.b (by omega));have hl:=iE H.b.nowL (show A.first+k<L.n by omega);have hone:=dW (aM L.now (A.first+k));have hlm:((aM L.now (A.first+k)).map al).length=128:=by rw[length_map];exact hl
   have hi:(Tryz.prog.info? 121).map (·.size)=some ((aM L.now (A.first+k)).map al).toArray.size:=by rw[size_toArray,hlm];exact sI
   have hth:∀W:World,(W.alloc (.cells eI 121)).there W.heap.size 0 128:=fun W=>dr (aK W _) 0 128 (by rw[show eI=aw (am 128)from rfl,bN,an];omega)
   have hsum:IntKind.i64.wrap ((A.first:Int)+k)=(A.first:Int)+k:=IntWalk.i64_in _ (by omega);clear hl;go_wp2_with fail;go_region_held3 (fun w'=>w'.cell? ⟨ab,0,none⟩=some (.pointer (some ⟨d,0,none⟩))/\w'.cell? ⟨ab,1,none⟩=some (.int .i64 A.first)) (first|exact⟨a0,a1⟩|exact⟨k0,k1⟩|exact⟨(World.cell?_alloc_lt _ _ ⟨ab,0,none⟩ hal).trans a0,(World.cell?_alloc_lt _ _ ⟨ab,1,none⟩ hal).trans a1⟩|exact⟨(World.cell?_alloc_lt _ _ ⟨ab,0,none⟩ kl).trans k0,(World.cell?_alloc_lt _ _ ⟨ab,1,none⟩ kl).trans k1⟩|exact⟨sE (by show ab≠_;omega) k0,sE (by show ab≠_;omega) k1⟩|exact⟨sE (by show ab≠_;omega) ((World.cell?_alloc_lt _ _ ⟨ab,0,none⟩ kl).trans k0),sE (by show ab≠_;omega) ((World.cell?_alloc_lt _ _ ⟨ab,1,none⟩ kl).trans k1)⟩) ((go_at_call 115;refine(HC.out _ (by first|exact HR.c.drew|exact HR.c.drew.alloc _)).mono ?_;rintro e w2 ⟨rfl,hs2⟩;have k0:w2.cell? ⟨ab,0,none⟩=some (.pointer (some ⟨d,0,none⟩)):=(by first|exact ib hs2 a0|exact ib hs2 ((World.cell?_alloc_lt _ _ ⟨ab,0,none⟩ hal).trans a0));have k1:w2.cell? ⟨ab,1,none⟩=some (.int .i64 A.first):=(by first|exact ib hs2 a1|exact ib hs2 ((World.cell?_alloc_lt _ _ ⟨ab,1,none⟩ hal).trans a1));have kl:ab<w2.heap.size:=World.block_lt_of_cell? w2 _ k0;(first|have hB2:w2.there wr.heap.size 0 128:=D4 hs2 (hth wr.drew)|skip);have HS2:=qqH hs2;clear hs2));all_goals clear a0 a1 k0 k1 hone hi hth hsum
   all_goals
    first
    | (
     obtain⟨hb3,hs3⟩:=Mf (wr:=wr) ((Mods.refl _ wr).drew.trans HS2.out) (s:=aM L.now (A.first+k)) (by simpa using hlm);change Exit.then _ _ _ _ ((w2.alloc (.cells eI 121)).setCells w2.heap.size 0 ((aM L.now (A.first+k)).map al))
     generalize (w2.alloc (.cells eI 121)).setCells w2.heap.size 0 ((aM L.now (A.first+k)).map al)=W3 at hb3 hs3 ⊢;generalize w2.heap.size=T at hb3 ⊢)
    | (
     obtain⟨hb3,hs3⟩:=Mg (wr:=wr) ((Mods.refl _ (wr.alloc (.cells eI 121))).drew.trans HS2.out) (s:=aM L.now (A.first+k)) (by simpa using hlm);change Exit.then _ _ _ _ (w2.setCells wr.heap.size 0 ((aM L.now (A.first+k)).map al))
     generalize w2.setCells wr.heap.size 0 ((aM L.now (A.first+k)).map al)=W3 at hb3 hs3 ⊢;generalize wr.heap.size=T at hb3 ⊢)
   all_goals
    have hT3:=HR.b.Q9 hs3;have hown3:=cZ hT3.sat HR.a;obtain⟨i0,hi0,hz1,hz2,hz3⟩:=info_parts ix
    have hnews:∀j u,((aM L.now (A.first+k)).map al)[j]?=some u->W3.cell? ((⟨T,0,none⟩:Addr).add j)=some u:=fun j u hu=>by
     rw[Addr.add_mid,Nat.zero_add];exact aa hb3 j (by simpa[aw]using hu)
    have hlk:(aC L.now A.first k).length<=137438953472:=by rw[fH H.b.nowL (by omega)];omega
    have hstep:=AI H.b.nowL (first:=A.first) (k:=k) (by omega);have H3:=Hq9 hT3 hown3 hnews hlm hi0 hz1 hz2 hz3 hstep;clear hT3 hown3 hnews hlm hi0 hz1 hz2 hz3 hb3 hs3 hstep;go_wp2_with (refine gB _ rfl (.tmp 32) (.tmp 33) 35 rfl 5 i0 (.int .u8 0) 1 1 Tryz.underlying35 H3.e H3.f H3.g H3.h rfl (by decide) _ _ _ rfl H3.b ⟨T,0,none⟩ 128 128 ((aM L.now (A.first+k)).map al) rfl (by rw[H3.d]) H3.c (dW _) (by unfold maxLen;omega) (by omega) ?_;intro v' w4 hown' hgrow _ hgb);obtain⟨hok4,hT4⟩:=jE (F:=[]) (G:=[]) (v:=u4) (by simpa using H3.a) (by have:=H3.d;simpa using this.symm) hown' hgrow hgb;rw[<- H3.out.2.2.2.2.2.2.2.2]at hok4 hT4;exact⟨⟨k+1,by omega,by go_num,hok4,by simpa using hT4⟩,by simp[intOf];omega⟩
  ·obtain rfl:k=A.count:=by omega
   have HR:=Hq2 hok hT;clear hok hT;go_wp2_with fail;go_ret2;exact⟨_,rfl,HR.out⟩
theorem qs(w:World)(c cap:Nat)(buf:Array Value)(cl:Bool)(s r:Nat)(tm:Bool):Mods (fun k=>k=c) w (w.setChan c cap buf cl s r tm) :=
 ⟨rfl,rfl,rfl,by simp[World.setChan],fun k _ hk=>by simp only[World.setChan];rw[Array.getElem?_setIfInBounds_ne (Ne.symm hk)]⟩
theorem Turns.Qv{F G:HF}{a w:World}{b:Nat}{φ ψ:Obj->Prop}(h:Turns F ((b,φ)::G) a w)(hw:∀o,φ o->ψ o):Turns F ((b,ψ)::G) a w :=
 ⟨h.mods,h.sat.weak hw,fun k hk=>h.fresh k (by simpa using hk)⟩
theorem zP(d:Nat)(A:AreaL)(h:A.tail.length=128):(aG d A)[132]?=some (.chan (some A.ch)):=by
 have e:(aG d A)[132]?=(aG d A).toList[132]?:=by simp
 rw[e];simp only[aG,Array.toList_append,aw,append_assoc];rw[getElem?_append_right (by simp),getElem?_append_right (by simp[h])];simp[h]
theorem CO(w:World)(cur:Array Value)(cap:Nat)(hc:cur.size=cap)(hm:cap<=maxLen):Turns [] (aA (.slice (some ⟨w.heap.size,0,none⟩) 0 cap) []) w (w.alloc (.cells cur 5)):=by
 have:=(Turns.refl (Sat.nil w)).Qe (φ:=fun o=>∃cap' cur,Value.slice (some ⟨w.heap.size,0,none⟩) 0 cap=.slice (some ⟨w.heap.size,0,none⟩) 0 cap'/\o=.cells cur 5 (0,0)/\0<=cap'/\cap'<=maxLen/\cur.size=cap'*1/\cur.toList.take (0*1)=[]) (o:=.cells cur 5) ⟨cap,cur,rfl,rfl,Nat.zero_le _,hm,by omega,by simp⟩;exact this
theorem wC(g cap:Nat):bOk (.slice (some ⟨g,0,none⟩) 0 cap) []:=⟨rfl,fun h=>by simp[Value.ownBlock]at h⟩
def sN(ab d:Nat)(A:AreaL)(w:World)(e:Ending)(w':World):Prop :=
 ∃bg cv sp,e=.returned (.slice (some ⟨bg,0,none⟩) 0 cv)/\bOk (.slice (some ⟨bg,0,none⟩) 0 cv) []/\Turns (ap ab d A) (aA (.slice (some ⟨bg,0,none⟩) 0 cv) []++ap ab d { A with spare:=sp }) w w'/\AreaOk { A with spare:=sp }/\sp.length<=A.spare.length/\sp.length<=1
theorem yg(ab d:Nat)(A:AreaL)(w:World)(h:Sat w (ap ab d A))(hA:AreaOk A):
  Calls Tryz.prog 131 #[.pointer (some ⟨ab,0,none⟩)] w (sN ab d A w):=by
 have hab:=h.Q5;have a5:w.cell? ⟨ab,132,none⟩=some (.chan (some A.ch)):=aa hab 132 (zP d A hA.tail);obtain⟨o,hch,s,r,rfl⟩:=h.tail.head;have HH:=Hq2 h hA;clear h hA hab
 cases hs:A.spare with
 | nil =>
  rw[hs]at hch;have HC:=qqH hch;have HS:=qqH hs;clear hch hs
  obtain⟨cur,hsz,hmk⟩:∃cur:Array Value,cur.size=256/\∀w:World,(Instr.makeSlice 35 (.int .i64 0) (.int .i64 256)).run Tryz.prog w=.ok (.slice (some ⟨w.heap.size,0,none⟩) 0 256) (w.alloc (.cells cur 5)) :=
   ⟨aw (replicate 256 0),by rw[bN,length_replicate],fun _=>by kernel_rfl⟩
  have HSZ:=qqH hsz;clear hsz;go_enter Tryz.func131,Tryz.ntmps131;go_upto_region 2 with(fail);refine vk (n:=2) (z:=.slice none 0 0) rfl rfl rfl (by kernel_rfl) HC.out ?_;simp only[QD,drop_zero,Act.put,QA];go_wp2_with fail;go_ret;exact⟨_,_,A.spare,rfl,wC _ _,Turns.Qb (Turns.refl HH.a) (CO w cur 256 HSZ.out (by unfold maxLen;omega)),HH.z,Nat.le_refl _,by rw[HS.out];simp⟩
 | cons x sp =>
  rw[hs]at hch;have HC:=qqH hch;have HS:=qqH hs;clear hch hs;have hx:=HH.z.caps x (by rw[HS.out];simp);have hx1:(0:Int)<=(x.2.2:Int):=by omega
  have hx2:(x.2.2:Int)<=9223372036854775807:=by have:=hx.2;unfold maxLen at this;omega
  obtain⟨bx,lx,cx⟩:=x;simp only at hx hx1 hx2;go_enter Tryz.func131,Tryz.ntmps131;go_upto_region 2 with(fail);refine vl (n:=2) (z:=.slice none 0 0) rfl rfl rfl (by kernel_rfl) HC.out (by simp) ?_;rw[show(List.map ft ((bx,lx,cx)::sp)).toArray.getD 0 undef=.slice (some ⟨bx,0,none⟩) lx cx from rfl];have hm:=qs w A.ch 2 ((List.map ft ((bx,lx,cx)::sp)).toArray.extract 1 (List.map ft ((bx,lx,cx)::sp)).toArray.size) false s (r+1) false;have hc2:=Conc.heap_setChan w A.ch 2 ((List.map ft ((bx,lx,cx)::sp)).toArray.extract 1 (List.map ft ((bx,lx,cx)::sp)).toArray.size) false s (r+1) false (ae HC.out);generalize w.setChan A.ch 2 ((List.map ft ((bx,lx,cx)::sp)).toArray.extract 1 (List.map ft ((bx,lx,cx)::sp)).toArray.size) false s (r+1) false=W2 at hm hc2 ⊢;have HM:=Hq2 hm hc2;clear hm hc2;simp only[QD,drop_zero,Act.put,QA];go_wp2_with fail;go_ret;have hb:=HH.a;simp only[ap,HS.out,mj,map_cons]at hb;have h1:=(Turns.refl hb).to (H:=(A.ch,fun o=>∃s r,o=.chan 2 (List.map ft ((bx,lx,cx)::sp)).toArray false s r false)::(ab,Is (.cells (aG d A) 124 (0,0)))::(bx,fun o=>∃cur:Array Value,o=.cells cur 5 (0,0)/\cur.size=cx)::mj sp) (Perm.swap _ _ _);have h2:=h1.put (ψ:=fun o=>∃s r,o=.chan 2 (sp.map ft).toArray false s r false) HM.a HM.z ⟨s,r+1,by simp;exact take_of_length_le (by simp)⟩;refine⟨_,_,sp,rfl,wC _ _,?_,⟨HH.z.tail,?_,?_⟩,?_,?_⟩
  ·have e:ap ab d A=(ab,Is (.cells (aG d A) 124 (0,0)))::(A.ch,fun o=>∃s r,o=.chan 2 (List.map ft ((bx,lx,cx)::sp)).toArray false s r false)::(bx,fun o=>∃cur:Array Value,o=.cells cur 5 (0,0)/\cur.size=cx)::mj sp:=by
    simp only[ap,HS.out,mj,map_cons]
   have h4:=(h2.to (H:=(bx,fun o=>∃cur:Array Value,o=.cells cur 5 (0,0)/\cur.size=cx)::(ab,Is (.cells (aG d A) 124 (0,0)))::(A.ch,fun o=>∃s r,o=.chan 2 (sp.map ft).toArray false s r false)::mj sp) ac).Qv (ψ:=fun o=>∃cap' cur,Value.slice (some ⟨bx,0,none⟩) 0 cx=.slice (some ⟨bx,0,none⟩) 0 cap'/\o=.cells cur 5 (0,0)/\0<=cap'/\cap'<=maxLen/\cur.size=cap'*1/\cur.toList.take (0*1)=[]) (fun o ⟨cur,h1,h2⟩=>⟨cx,cur,rfl,h1,Nat.zero_le _,hx.2,by omega,by simp⟩);rw[e];exact h4
  ·have:=HH.z.few;rw[HS.out]at this;simp at this ⊢;omega
  ·intro x hx;exact HH.z.caps x (by rw[HS.out];exact mem_cons_of_mem _ hx)
  ·rw[HS.out];simp
  ·have:=HH.z.few;rw[HS.out]at this;simp at this;omega
theorem Jw(w:World):(zeroValue 5).run Tryz.prog w=.ok (.int .u8 0) w:=by kernel_rfl
theorem FG{w:World}{g n cap:Nat}{cur:Array Value}(hg:w.heap[g]?=some (.cells cur 5 (0,0)))(hn:n<=cap)(hc:cur.size=cap):
  ∃W1:World,(∀ty,(Builtin.clear_ #[35] ty #[.slice (some ⟨g,0,none⟩) n cap]).run Tryz.prog w=.ok (.tuple #[]) W1)/\Mods (fun k=>k=g) w W1/\∃cur':Array Value,W1.heap[g]?=some (.cells cur' 5 (0,0))/\cur'.size=cap:=by
 rcases Nat.eq_zero_or_pos n with rfl|hp
 ·exact⟨w,fun ty=>by simp[Builtin.clear_,run_underlying Tryz.underlying35],Mods.refl _ _,cur,hg,hc⟩
 ·have hth:=dr hg 0 n (by omega);have h1:=fun ty=>Lib.run_clear_slice (P:=Tryz.prog) w 35 5 ty (.int .u8 0) Tryz.underlying35 Jw rfl rfl g 0 n cap hp (fun j hj=>(hth j hj).1) (fun j hj=>(hth j hj).2)
  obtain⟨h2,h3⟩:=fq (C:=cur.toList) (by simpa using hg) 0 (replicate n (.int .u8 0)) (by simp;omega);exact⟨_,h1,h3,_,h2,by simp[spl];omega⟩
def GW(ab d:Nat)(A:AreaL)(v:Value)(l:Bs)(w:World)(e:Ending)(w':World):Prop :=
 e=.returned (.tuple #[])/\∃sp,Turns (aA v l++ap ab d A) (ap ab d { A with spare:=sp }) w w'/\AreaOk { A with spare:=sp }
theorem CP(ab d:Nat)(A:AreaL)(g cap:Nat)(l:Bs)(w:World)(h:Sat w (aA (.slice (some ⟨g,0,none⟩) l.length cap) l++ap ab d A))(hA:AreaOk A):
  Calls Tryz.prog 133 #[.pointer (some ⟨ab,0,none⟩),.slice (some ⟨g,0,none⟩) l.length cap] w (GW ab d A (.slice (some ⟨g,0,none⟩) l.length cap) l w):=by
 obtain⟨o,hgo,cap',cur,hv,rfl,hn,hcm,hcs,htk⟩:=(show Sat w ((g,_)::ap ab d A)from h).head;obtain rfl:cap=cap':=by simpa using hv
 obtain⟨W1,hcl,hm1,cur1,hg1,hs1⟩:=FG hgo hn (by omega);have hT1:Turns (aA (.slice (some ⟨g,0,none⟩) l.length cap) l++ap ab d A) ((g,fun o=>∃cur:Array Value,o=.cells cur 5 (0,0)/\cur.size=cap)::ap ab d A) w W1:=(Turns.refl h).put (φ:=_) (ψ:=fun o=>∃cur:Array Value,o=.cells cur 5 (0,0)/\cur.size=cap) hm1 hg1 ⟨cur1,rfl,hs1⟩;have hab:=hT1.sat.tail.Q5;have a5:W1.cell? ⟨ab,132,none⟩=some (.chan (some A.ch)):=aa hab 132 (zP d A hA.tail);obtain⟨o,hch,s,r,rfl⟩:=hT1.sat.tail.tail.head;have HH:=Hq4 hT1 hA hn hcm;clear h hA hab hgo hn hcm hcs htk hm1 hg1 hs1 hT1 hv;have HC:=qqH hch;clear hch;go_enter Tryz.func133,Tryz.ntmps133;go_upto_region 3 with(simp only[hcl]);by_cases hlt:A.spare.length<2
 ·refine vm (n:=2) (v:=.slice (some ⟨g,0,none⟩) l.length cap) (z:=.slice none 0 0) rfl rfl rfl (by kernel_rfl) HC.out (by simpa using hlt) ?_;have hm:=qs W1 A.ch 2 ((A.spare.map ft).toArray.push (.slice (some ⟨g,0,none⟩) l.length cap)) false (s+1) r false;have hc2:=Conc.heap_setChan W1 A.ch 2 ((A.spare.map ft).toArray.push (.slice (some ⟨g,0,none⟩) l.length cap)) false (s+1) r false (ae HC.out);generalize W1.setChan A.ch 2 ((A.spare.map ft).toArray.push (.slice (some ⟨g,0,none⟩) l.length cap)) false (s+1) r false=W2 at hm hc2 ⊢;have HM:=Hq2 hm hc2;clear hm hc2 hcl;simp only[QD,drop_zero,Act.put,QA];go_wp2_with fail;go_end0;have h1:=HH.a.to (H:=(A.ch,fun o=>∃s r,o=.chan 2 (A.spare.map ft).toArray false s r false)::(ab,Is (.cells (aG d A) 124 (0,0)))::(mj A.spare++[(g,fun o=>∃cur:Array Value,o=.cells cur 5 (0,0)/\cur.size=cap)])) (by unfold ap;exact ac);have h2:=h1.put (ψ:=fun o=>∃s r,o=.chan 2 ((A.spare++[(g,l.length,cap)]).map ft).toArray false s r false) HM.a HM.z ⟨s+1,r,by simp[ft]⟩;refine⟨rfl,A.spare++[(g,l.length,cap)],?_,⟨HH.b.tail,by simp;omega,?_⟩⟩
  ·have e:ap ab d { A with spare:=A.spare++[(g,l.length,cap)] }=(ab,Is (.cells (aG d A) 124 (0,0)))::(A.ch,fun o=>∃s r,o=.chan 2 ((A.spare++[(g,l.length,cap)]).map ft).toArray false s r false)::(mj A.spare++[(g,fun o=>∃cur:Array Value,o=.cells cur 5 (0,0)/\cur.size=cap)]):=by
    unfold ap mj;simp only[map_append,map_cons,map_nil];rfl
   rw[e];exact h2.to ac
  ·intro x hx;rcases mem_append.1 hx with hx|hx
   ·exact HH.b.caps x hx
   ·simp at hx;subst hx;exact HH.y
 ·refine vj (n:=2) (v:=.slice (some ⟨g,0,none⟩) l.length cap) (z:=.slice none 0 0) rfl rfl rfl (by kernel_rfl) HC.out (by simp;omega) ?_;clear hcl;simp only[QD,drop_zero,Act.put,QA];go_wp2_with fail;go_end0;exact⟨rfl,A.spare,Turns.drop (H:=ap ab d A) HH.a bB,HH.b⟩
theorem pI{t n:Nat}(ht:Tryz.prog.underlying t=some (.array n 5))(hc:Tryz.prog.cellsOf t=n)(d:Nat)(s:Bs)(hs:s.length=n):
  Tryz.prog.keyLits (d+2) t (s.map al)=some (s.map fun x=>Lit.int .u8 x.toNat):=by
 have h1:Tryz.prog.cellsOf 5=1:=by kernel_rfl
 have e0:Tryz.prog.keyLits (d+2) t (s.map al)=if(s.map al).length=n then((range n).mapM fun i=>Tryz.prog.keyLits (d+1) 5 (((s.map al).drop i).take 1)).map flatten else none:=by
  conv=>lhs;unfold Program.keyLits
  simp only[ht,hc,h1,Nat.mul_one]
 rw[e0,if_pos (by simpa using hs)]
 have hm:∀(m:Nat) (l:Bs) (o:Nat),(s.drop o).take m=l->l.length=m->(range' o m).mapM (fun i=>Tryz.prog.keyLits (d+1) 5 (((s.map al).drop i).take 1))=some (l.map fun x=>[Lit.int .u8 x.toNat]):=by
  intro m;induction m with
  | zero=>intro l o h hl;simp at hl;subst hl;rfl
  | succ m ih =>
   intro l o h hl
   cases l with
   | nil=>simp at hl
   | cons x r =>
    have ho:o<s.length:=by
     rcases Nat.lt_or_ge o s.length with h'|h'
     ·exact h'
     ·rw[drop_of_length_le h']at h;simp at h
    rw[drop_eq_getElem_cons ho,QE]at h;obtain⟨rfl,hr⟩:=List.cons.inj h
    have e1:((s.map al).drop o).take 1=[al s[o]]:=by
     rw[drop_eq_getElem_cons (show o<(s.map al).length by simpa using ho)];simp only[QE,take_zero,getElem_map]
    have e2:Tryz.prog.keyLits (d+1) 5 [al s[o]]=some [Lit.int .u8 s[o].toNat]:=by
     have:=UInt8.toNat_lt s[o];have hw:(Lit.int .u8 (s[o].toNat:Int)).wf=true:=by simp[Lit.wf,IntKind.min,IntKind.max,IntKind.bits,IntKind.signed];omega
     simp only[Program.keyLits,Tryz.underlying5,al];exact if_pos ⟨trivial,hw⟩
    rw[range'_succ,mapM_cons,e1,e2];rw[ih r (o+1) hr (by simpa using hl)];rfl
 have hf:∀l:Bs,(l.map fun x=>[Lit.int IntKind.u8 (x.toNat:Int)]).flatten=l.map fun x=>Lit.int IntKind.u8 (x.toNat:Int):=fun l=>by
  induction l with
  | nil=>rfl
  | cons x r ih=>rw[map_cons,map_cons,flatten_cons,ih];rfl
 have hm0:=hm n s 0 (by rw[drop_zero];exact take_of_length_le (by omega)) hs;rw[range_eq_range',hm0,Option.map_some,hf]
theorem IT{a b:Bs}(h:(a.map fun x=>Lit.int IntKind.u8 x.toNat)=b.map fun x=>Lit.int IntKind.u8 x.toNat):a=b:=by
 induction a generalizing b with
 | nil=>cases b with
  | nil=>rfl
  | cons y r=>simp at h
 | cons x r ih=>cases b with
  | nil=>simp at h
  | cons y s =>
   simp only[map_cons,List.cons.injEq,Lit.int.injEq,true_and]at h;obtain⟨h1,h2⟩:=h;rw[ih h2,UInt8.toNat_inj.1 (show x.toNat=y.toNat by omega)]
theorem oH{t n:Nat}(ht:Tryz.prog.underlying t=some (.array n 5))(hc:Tryz.prog.cellsOf t=n)(hk:Tryz.prog.keyTypeAt 2 t=true)(hk2:Tryz.prog.keyType t=true)(hsz:Tryz.prog.types.size+1=334+1)(a b:Bs)(ha:a.length=n)(hb:b.length=n)(w:World):(Op.equal t (.agg (aw a)) (.agg (aw b))).run Tryz.prog w=.ok (decide (a=b)) w:=by
 have key:∀s:Bs,s.length=n->keyOf Tryz.prog t (.agg (aw s))=some (.string (keyBytes (s.map fun x=>Lit.int .u8 x.toNat))):=fun s hs=>by
  unfold keyOf;rw[ht];simp only[hk2,Value.formed,ht,hc,bN,hs,beq_self_eq_true,Bool.and_self,if_true];rw[hsz];show(Tryz.prog.keyLits (334-1+2) t (aw s).toList).map _=_;rw[show(aw s).toList=s.map al from rfl,pI ht hc _ s hs];rfl
 obtain⟨r,hr,hiff⟩:=run_equal_deep w (m:=2) (by decide) hk (by rw[ht]) (key a ha) (key b hb);rw[hr];congr 1;rw[Bool.eq_iff_iff,hiff,decide_eq_true_iff];constructor
 ·intro e;have e':keyBytes (a.map fun x=>Lit.int .u8 x.toNat)=keyBytes (b.map fun x=>Lit.int .u8 x.toNat):=by simpa using e
  exact IT (Go.keyLits_inj (pI ht hc 0 a ha) (pI ht hc 0 b hb) e')
 ·rintro rfl;rfl
theorem EJ{t n:Nat}(ht:Tryz.prog.underlying t=some (.array n 5))(hc:Tryz.prog.cellsOf t=n)(hk:Tryz.prog.keyTypeAt 2 t=true)(hk2:Tryz.prog.keyType t=true)(hsz:Tryz.prog.types.size+1=334+1)(a b:Bs)(ha:a.length=n)(hb:b.length=n)(w:World):(binOp .neq t (.agg (aw a)) (.agg (aw b))).run Tryz.prog w=.ok (.bool (!decide (a=b))) w:=by
 simp only[binOp,Sem.run_bind,oH ht hc hk hk2 hsz a b ha hb w,Result.andThen_ok,Sem.run_pure]
theorem Kd{t n:Nat}(ht:Tryz.prog.underlying t=some (.array n 5))(hc:Tryz.prog.cellsOf t=n)(hk:Tryz.prog.keyTypeAt 2 t=true)(hk2:Tryz.prog.keyType t=true)(hsz:Tryz.prog.types.size+1=334+1)(a b:Bs)(ha:a.length=n)(hb:b.length=n)(w:World):(binOp .eql t (.agg (aw a)) (.agg (aw b))).run Tryz.prog w=.ok (.bool (decide (a=b))) w:=by
 simp only[binOp,Sem.run_bind,oH ht hc hk hk2 hsz a b ha hb w,Result.andThen_ok,Sem.run_pure]
theorem xc(a b:Bs)(ha:a.length=128)(hb:b.length=128)(w:World):(binOp .neq 120 (.agg (aw a)) (.agg (aw b))).run Tryz.prog w=.ok (.bool (!decide (a=b))) w :=
 EJ Tryz.underlying120 (by kernel_rfl) (by kernel_rfl) (by kernel_rfl) (by kernel_rfl) a b ha hb w
theorem EK(a b:Bs)(ha:a.length=128)(hb:b.length=128)(w:World):(binOp .neq 121 (.agg (aw a)) (.agg (aw b))).run Tryz.prog w=.ok (.bool (!decide (a=b))) w :=
 EJ Tryz.underlying121 (by kernel_rfl) (by kernel_rfl) (by kernel_rfl) (by kernel_rfl) a b ha hb w
theorem Kf(a b:Bs)(ha:a.length=128)(hb:b.length=128)(w:World):(binOp .eql 121 (.agg (aw a)) (.agg (aw b))).run Tryz.prog w=.ok (.bool (decide (a=b))) w :=
 Kd Tryz.underlying121 (by kernel_rfl) (by kernel_rfl) (by kernel_rfl) (by kernel_rfl) a b ha hb w
theorem lh{t:Nat}(hg:Tryz.prog.eqGuardType Tryz.prog.depth t=false)(b:BinOp)(x y:Operand)(A B:Array Value)(w:World):(eqGuard b t x y (.agg A) (.agg B)).run Tryz.prog w=.ok () w:=by
 have hp:∀w,Sem.run Tryz.prog program w=.ok Tryz.prog w:=fun _=>rfl
 have h1:(!Tryz.prog.eqGuardType Tryz.prog.depth t)=true:=by rw[hg];rfl
 cases b<;>first|rfl|(unfold eqGuard;simp only[Bool.not_true,Bool.false_eq_true,if_false,Sem.run_bind,hp,Result.andThen_ok,h1,if_true,Sem.run_pure])
theorem sj{ops:Array Oper}{w:World}{Q:Act->Prop}{a:Act}{op:Oper}{rest:List Oper}(hgd:op.guard=none)(b:BinOp)(t:TypeId)(x y:Operand)(ty:TypeId)(ho:op.op=.binOp b t x y ty)(hg:Tryz.prog.eqGuardType Tryz.prog.depth t=false)(A B:Array Value)(v:Value)(hn:(binOp b t (.agg A) (.agg B)).run Tryz.prog w=.ok v w)(hx:a.eval x=.agg A)(hy:a.eval y=.agg B)(h:wpStill Tryz.prog ops w Q rest (a.put op.dst v)):wpStill Tryz.prog ops w Q (op::rest) a:=by
 refine wpStill_step (fun K hK=>?_);have hw:Region.wanted op (yielded ops a.tmps)=true:=by simp[Region.wanted,hgd]
 rw[if_pos hw];unfold Oper.still execOp;simp only[ho,hx,hy,Sem.run_bind,lh hg,Result.andThen_ok,hn,Oper.stillUpon,Sem.run_pure];exact⟨trivial,hK _ h⟩
theorem px{ops:Array Oper}{w:World}{Q:Exit->Act->World->Prop}{a:Act}{op:Oper}{rest:List Oper}(hgd:op.guard=none)(b:BinOp)(t:TypeId)(x y:Operand)(ty:TypeId)(ho:op.op=.binOp b t x y ty)(hg:Tryz.prog.eqGuardType Tryz.prog.depth t=false)(A B:Array Value)(v:Value)(hn:(binOp b t (.agg A) (.agg B)).run Tryz.prog w=.ok v w)(hx:a.eval x=.agg A)(hy:a.eval y=.agg B)(h:wpList Tryz.prog ops Q rest (a.put op.dst v) w):wpList Tryz.prog ops Q (op::rest) a w:=by
 refine wpList_plain hgd fun K hK=>?_
 unfold Oper.wp execOp;simp only[ho,hx,hy,Sem.run_bind,lh hg,Result.andThen_ok,hn,Sem.run_pure];exact hK _ _ h
theorem BJ(ad:Addr)(len cap:Nat)(h:128<=len)(w:World):(Instr.arrayAt 120 (.slice (some ad) len cap)).run Tryz.prog w=.ok (.pointer (some ad)) w:=by
 have h':¬len<128:=by omega
 unfold Instr.arrayAt;simp[run_underlying Tryz.underlying120,h']
theorem si{ops:Array Oper}{w:World}{Q:Act->Prop}{a:Act}{op:Oper}{rest:List Oper}(hgd:op.guard=none)(x:Operand)(ho:op.op=.sliceToArrayPointer 120 x)(ad:Addr)(len cap:Nat)(hl:128<=len)(hx:a.eval x=.slice (some ad) len cap)(h:wpStill Tryz.prog ops w Q rest (a.put op.dst (.pointer (some ad)))):wpStill Tryz.prog ops w Q (op::rest) a:=by
 refine wpStill_step (fun K hK=>?_);have hw:Region.wanted op (yielded ops a.tmps)=true:=by simp[Region.wanted,hgd]
 rw[if_pos hw];unfold Oper.still execOp;simp only[ho,hx,Sem.run_bind,BJ ad len cap hl,Result.andThen_ok,Oper.stillUpon,Sem.run_pure];exact⟨trivial,hK _ h⟩
theorem EA:Tryz.prog.eqGuardType Tryz.prog.depth 120=false:=by kernel_rfl
theorem qf:Tryz.prog.eqGuardType Tryz.prog.depth 121=false:=by kernel_rfl
theorem cO(d:Nat)(A:AreaL):(aG d A).toList=[Value.pointer (some ⟨d,0,none⟩),.int .i64 A.first,.int .i64 A.count,.int .i64 A.end_]++(A.tail.map al++[.chan (some A.ch)]):=by simp[aG,aw]
theorem tq(d:Nat)(A:AreaL)(e:Nat):(aG d A).setIfInBounds 3 (.int .i64 e)=aG d { A with end_:=e }:=by
 apply Array.ext';rw[Array.toList_setIfInBounds,cO,cO];rfl
theorem qL(d:Nat)(A:AreaL)(s:Bs)(hs:s.length<=A.tail.length):(spl (aG d A).toList 4 (s.map al)).toArray=aG d { A with tail:=aZ A.tail 0 s }:=by
 apply Array.ext';rw[cO];show spl _ 4 _=_;generalize hh:[Value.pointer (some ⟨d,0,none⟩),Value.int .i64 A.first,Value.int .i64 A.count,Value.int .i64 A.end_]=hd;have hl:hd.length=4:=by rw[<- hh];rfl
 unfold spl;rw[take_left' hl,<- hl,<- drop_drop,drop_left' rfl,drop_append_of_le_length (by simpa using hs)];rw[cO];simp[aZ,hh]
theorem ln{w w':World}{ab d:Nat}{A A':AreaL}{R:HF}(h:Sat w (ap ab d A++R))(hm:Mods (fun k=>k=ab) w w')(hc:w'.heap[ab]?=some (.cells (aG d A') 124 (0,0)))(h1:A'.ch=A.ch)(h2:A'.spare=A.spare):
  Turns (ap ab d A++R) (ap ab d A'++R) w w':=by
 have:=(Turns.refl h).Qa hm hc;unfold ap;rw[h1,h2];exact this
theorem oQ{w:World}{ab d:Nat}{A:AreaL}{t:TypeId}{fz:Nat×Nat}(h:w.heap[ab]?=some (.cells (aG d A) t fz)):w.rangeAt ab 4 (A.tail.map al):=fun j v hv=>by
 refine aa h (4+j) ?_
 rw[<- Array.getElem?_toList,cO,getElem?_append_right (by simp)]
 rw[getElem?_append_left (by have:=(List.getElem?_eq_some_iff.1 hv).1;simpa[Nat.add_sub_cancel_left]using this)]
 simpa[Nat.add_sub_cancel_left]using hv
theorem j7(d:Nat)(A:AreaL):(aG d A).size=A.tail.length+5:=by simp[aG,bN];omega
theorem D1(L:List Value)(o:Nat)(v:List Value):splice L o v=spl L o v:=by simp[splice,spl]
theorem CG(d:Nat)(A:AreaL)(e:Nat)(s t:Bs)(hs:s.length<=128)(ht:t=s++am (128-s.length)):
  (splice (aG d { A with end_:=e,tail:=am 128 }).toList 4 (s.map al)).toArray=aG d { A with end_:=e,tail:=t }:=by
 have e2:aZ (am 128) 0 s=t:=by
  rw[ht];unfold aZ;rw[take_zero,nil_append,Nat.zero_add];congr 1;unfold am;rw[drop_replicate]
 rw[D1,qL d { A with end_:=e,tail:=am 128 } s (by rw[an];exact hs),e2]
def fY(l:Bs)(first q:Nat)(t:Bs):Nat->Bs
 | 0=>l
 | m+1=>aZ (fY l first q t m) (128*(first+q+m)) (if m=0 then t else am 128)
theorem jF{l t:Bs}{n first q:Nat}(hl:l.length=128*n)(ht:t.length=128)(m:Nat)(h:first+q+m<=n):(fY l first q t m).length=128*n:=by
 induction m with
 | zero=>exact hl
 | succ m ih =>
  rw[fY,jJ]
  ·exact ih (by omega)
  ·rw[ih (by omega)];split<;>simp[ht,an]<;>omega
def xQ(ab d:Nat)(A:AreaL)(L:DevL)(end_:Nat)(ws:Bs)(w:World)(e:Ending)(w':World):Prop :=
 e=.returned .nilIface/\∃L',Turns (ap ab d A++aD d L) (ap ab d { A with end_:=end_,tail:=((ws.take end_).drop (128*(end_ / 128))++am (128-end_%128)) }++aD d L') w w'/\DevOk L'/\L'.n=L.n /\
  L'.now=fY L.now A.first (end_ / 128) ((ws.take end_).drop (128*(end_ / 128))++am (128-end_%128)) (A.count-end_ / 128)/\L'.safe=L'.now/\L'.chs=[]
theorem nX:Tryz.prog.built 121 []=some (aw (am 128)):=by kernel_rfl
def bT(t:Bs)(m:Nat):Bs:=if m=0 then t else am 128
theorem fM{t:Bs}(ht:t.length=128)(m:Nat):(bT t m).length=128:=by unfold bT;split;exact ht;exact an _
def sP(ab d T:Nat)(A A1:AreaL)(L:DevL)(q:Nat)(t:Bs)(w:World)(i:Value)(wr:World):Prop :=
 ∃(m:Nat) (L':DevL),q+m<=A.count/\i=.int .i64 ((q+m:Nat):Int)/\Turns (ap ab d A++aD d L) ((T,Is (.cells (aw (bT t m)) 121 (0,0)))::(ap ab d A1++aD d L')) w wr /\
  DevOk L'/\L'.n=L.n/\L'.now=fY L.now A.first q t m/\L'.chs.length<=L.chs.length+m
theorem pV{ab d:Nat}{A A1:AreaL}{L:DevL}{q:Nat}{t:Bs}{w w3:World}(hq:q<=A.count)(hT:Turns (ap ab d A++aD d L) (ap ab d A1++aD d L) w w3)(hL:DevOk L)(ht:t.length=128):
  sP ab d w3.heap.size A A1 L q t w (.int .i64 q) ((w3.alloc (.cells eI 121)).setCells w3.heap.size 0 (t.map al)):=by
 obtain⟨h1,h2⟩:=dJ (aK w3 (.cells (aw (am 128)) 121)) (s:=t) (by rw[ht,an]);exact⟨0,L,hq,rfl,(hT.Q8 (.cells (aw (am 128)) 121)).Qa h2 h1,hL,rfl,rfl,Nat.le_refl _⟩
theorem DI{l s:Bs}{o:Nat}(h:(l.drop o).take s.length=s)(_:o+s.length<=l.length):aZ l o s=l:=by
 unfold aZ
 have e:l.drop o=s++l.drop (o+s.length):=by
  rw[<- take_append_drop s.length (l.drop o),h,drop_drop]
 rw[append_assoc,<- e,take_append_drop]
theorem BM{l t:Bs}{n first q:Nat}(hl:l.length=128*n)(ht:t.length=128)(k:Nat):∀m,first+q+m<=n->first+q+m<=k->aM (fY l first q t m) k=aM l k:=by
 intro m;induction m with
 | zero=>intro _ _;rfl
 | succ m ih =>
  intro h1 h2;rw[fY,<- ih (by omega) (by omega)];have hw:(if m=0 then t else am 128).length=128:=fM ht m;have hlen:=jF hl ht (q:=q) (first:=first) m (by omega);unfold aM aZ;congr 1;rw[drop_append,drop_of_length_le (by simp[hw];omega),nil_append,drop_drop];congr 1;simp only[length_append,length_take,hw,hlen];omega
theorem Am{ab d T:Nat}{A A1:AreaL}{L L':DevL}{q m:Nat}{t:Bs}{w wr w4:World}(hT:Turns (ap ab d A++aD d L) ((T,Is (.cells (aw (bT t m)) 121 (0,0)))::(ap ab d A1++aD d L')) w wr)(hL':DevOk L')(hn:L'.n=L.n)(hnow:L'.now=fY L.now A.first q t m)(hch:L'.chs.length<=L.chs.length+m)(hm:q+m<A.count)(hA:A.first+A.count<=L.n)(hLn:L.now.length=128*L.n)(ht:t.length=128)(heq:aM L.now (A.first+(q+m))=bT t m)(hs:w4=(wr.drew.setCells T 0 ((am 128).map al)))(i:Value)(hi:i=.int .i64 (((q+m:Nat):Int)+1)):sP ab d T A A1 L q t w i w4:=by
 have hTd:=hT.drew;have hb:=hTd.sat.Q5;obtain⟨h1,h2⟩:=dJ hb (s:=am 128) (by rw[an,fM ht]);subst hs;refine⟨m+1,L',by omega,by rw[hi];congr 1,?_,hL',hn,?_,by omega⟩
 ·rw[show bT t (m+1)=am 128 from rfl];exact hTd.Qa h2 h1
 ·rw[fY,hnow];have hw:=fM ht m;refine(DI (s:=bT t m) ?_ ?_).symm
  ·have:=BM hLn ht (A.first+(q+m)) (first:=A.first) (q:=q) m (by omega) (by omega);rw[hw,show A.first+q+m=A.first+(q+m) by omega];rw[heq]at this;exact this
  ·rw[hw,jF hLn ht m (by omega)];omega
theorem wL{ab d T:Nat}{A A1:AreaL}{L L' L2:DevL}{q m:Nat}{t:Bs}{w wr w4 w5:World}(hT:Turns (ap ab d A++aD d L) ((T,Is (.cells (aw (bT t m)) 121 (0,0)))::(ap ab d A1++aD d L')) w wr)(hW:Turns (aD d L') (aD d L2) wr.drew.drew w4)(hL2:DevOk L2)(hn:L'.n=L.n)(hn2:L2.n=L'.n)(hnow:L'.now=fY L.now A.first q t m)(hnow2:L2.now=aZ L'.now (128*(A.first+(q+m))) (bT t m))(hch:L'.chs.length<=L.chs.length+m)(hch2:L2.chs.length=L'.chs.length+1)(hm:q+m<A.count)(ht:t.length=128)(hs:w5=w4.setCells T 0 ((am 128).map al))(i:Value)(hi:i=.int .i64 (((q+m:Nat):Int)+1)):sP ab d T A A1 L q t w i w5:=by
 have p:∀X:HF,((T,Is (.cells (aw (bT t m)) 121 (0,0)))::(ap ab d A1++X)).Perm (X++((T,Is (.cells (aw (bT t m)) 121 (0,0)))::ap ab d A1)):=fun X =>
  (perm_append_comm (l₁:=(T,Is (.cells (aw (bT t m)) 121 (0,0)))::ap ab d A1) (l₂:=X))
 have hTd:=hT.drew.drew;have h4:=hTd.trans ((hW.frame (hTd.sat.perm (p _))).perm (p _).symm (p _).symm);obtain⟨h1,h2⟩:=dJ h4.sat.Q5 (s:=am 128) (by rw[an,fM ht]);subst hs;refine⟨m+1,L2,by omega,by rw[hi];congr 1,?_,hL2,by omega,?_,by omega⟩
 ·rw[show bT t (m+1)=am 128 from rfl];exact h4.Qa h2 h1
 ·rw[hnow2,hnow,fY,show A.first+(q+m)=A.first+q+m by omega];rfl
theorem Eu{F:HF}{ab d T:Nat}{A1:AreaL}{φ:Obj->Prop}{L' L2:DevL}{w wr w4:World}(hT:Turns F ((T,φ)::(ap ab d A1++aD d L')) w wr)(hF:Turns (aD d L') (aD d L2) wr w4):Turns F (ap ab d A1++aD d L2) w w4:=by
 have p:∀X:HF,((T,φ)::(ap ab d A1++X)).Perm (X++((T,φ)::ap ab d A1)):=fun X=>(perm_append_comm (l₁:=(T,φ)::ap ab d A1) (l₂:=X))
 have h4:=hT.trans ((hF.frame (hT.sat.perm (p _))).perm (p _).symm (p _).symm);exact Turns.right (G:=[(T,φ)]) h4
theorem qG(ab d:Nat)(A:AreaL)(L:DevL)(end_:Nat)(a:Option Addr)(cap:Nat)(ws:Bs)(w:World)(h:Sat w (ap ab d A++aD d L))(hL:DevOk L)(hA:A.first+A.count<=L.n)(hn:L.n<=1073741824)(hao:AreaOk A)(hw:ak w a (ws.map al))(hne:∀x,a=some x->x.block∉dom (ap ab d A++aD d L))(hwl:ws.length=128*A.count)(hcap:ws.length<=cap)(hcap2:cap<=9223372036854775807)(hpos:0<A.count)(he:end_<=128*A.count)(hch:L.chs.length<=137438953472)(hok:∀m,end_ / 128+m<A.count->aM ws (end_ / 128+m)=(if m=0 then((ws.take end_).drop (128*(end_ / 128))++am (128-end_%128))else am 128)->aM L.now (A.first+(end_ / 128+m))=(if m=0 then((ws.take end_).drop (128*(end_ / 128))++am (128-end_%128))else am 128)):
  Calls Tryz.prog 84 #[.pointer (some ⟨ab,0,none⟩),.int .i64 end_,.slice a ws.length cap] w (xQ ab d A L end_ ws w):=by
 unfold xQ;obtain⟨g,off,rfl,_⟩:=hw (by rw[length_map];omega);have hab:=ik h;have c3:=aa hab 3 (nJ d A);have f3:=bc hab 3;have hset3:(w.setCell ⟨ab,3,none⟩ (.int .i64 end_)).heap[ab]?=some (.cells (aG d { A with end_:=end_ }) 124 (0,0)):=by rw[bn hab 3,tq]
 have hT1:=ln h ((Mods.refl (fun k=>k=ab) w).set1 (i:=3) (.int .i64 end_)) hset3 rfl rfl;obtain⟨hs4,hm4⟩:=fq (C:=(aG d { A with end_:=end_ }).toList) (by simpa using hset3) 4 ((am 128).map al) (by rw[length_map,an,Array.length_toList,j7,hao.tail];omega);rw[qL _ _ _ (by show _<=A.tail.length;rw[an,hao.tail];omega)]at hs4;have hth4:(w.setCell ⟨ab,3,none⟩ (.int .i64 end_)).there ab 4 128:=dr hset3 4 128 (by rw[j7];show _<=A.tail.length+5;rw[hao.tail];omega);have hpf:aZ A.tail 0 (am 128)=am 128:=by simp[aZ,an,hao.tail]
 simp only[hpf]at hs4;have hT2:=hT1.trans (ln (A':={ A with end_:=end_,tail:=am 128 }) hT1.sat hm4 hs4 rfl rfl);obtain⟨q,hq⟩:∃q,end_ / 128=q:=⟨_,rfl⟩;obtain⟨r,hr⟩:∃r,end_%128=r:=⟨_,rfl⟩;obtain⟨lo,hlo⟩:∃lo,128*q=lo:=⟨_,rfl⟩;have hrl:r<128:=by omega
 have hle:lo+r=end_:=by omega
 have hwe:end_<=ws.length:=by omega
 have i1:((end_:Int)%128)=(r:Int):=by omega
 have i2:((end_:Int) / 128)=(q:Int):=by omega
 have i3:((end_:Int)-(r:Int))=(lo:Int):=by omega
 have hcs:((ws.drop lo).take r).length=r:=by simp;omega
 rw[hq,hr]at hok ⊢;have HWL:=Hq6 hwl hq hr hlo hle hcs;have hlow:lo<=end_:=by omega
 have hqc:q<=A.count:=by omega
 clear hwl hq hr hlo hle hcs;have H:=Hq8 h hL hw hne hok hT2 hs4 hth4;have HZ:=qqH nX;have hz:=nY;clear h hL hw hne hok hT1 hT2 hs4 hm4 hset3 hth4 hab;go_enter Tryz.func84,Tryz.ntmps84;go_wp2_with (first|(refine bV rfl 121 #[] rfl (aw (am 128)) HZ.out ?_)|(refine wpList_store_mid rfl 121 (.tmp 17) (.tmp 15) rfl ab 4 (aw (am 128)) rfl rfl (by rw[bN,an];exact H.t) (iD (an 128)) (c9 _) ?_));obtain⟨w2,hw2⟩:∃w2,w2=(w.setCell ⟨ab,3,none⟩ (.int .i64 end_)).setCells ab 4 ((am 128).map al):=⟨_,rfl⟩;have hT2:=H.f;have hc2:=H.g;rw[<- hw2]at hT2 hc2;change Code.wp _ _ _ _ ((w.setCell ⟨ab,3,none⟩ (.int .i64 end_)).setCells ab 4 ((am 128).map al));rw[<- hw2];have H2:=Hq2 hT2 hc2;clear hT2 hc2 hw2;have j1:((end_:Int)).tmod 128=(r:Int):=by rw[Int.tmod_eq_emod_of_nonneg (by omega)];exact i1
 have j2:IntKind.i64.wrap (lo:Int)=(lo:Int):=IntWalk.i64_in _ (by omega);have j3:(lo:Int)<=(end_:Int):=by omega
 have j4:(end_:Int)<=(cap:Int):=by omega
 obtain⟨t,ht⟩:∃t:Bs,t=(ws.drop lo).take r++am (128-r):=⟨_,rfl⟩;have htl:t.length=128:=by rw[ht,length_append,HWL.v,an];omega
 have htw:t=(ws.take end_).drop (128*q)++am (128-r):=by rw[ht,drop_take,HWL.d];congr 2;have:=HWL.e;omega
 have hcp:∀w3,w3.heap[ab]?=some (.cells (splice (aG d { A with end_:=end_,tail:=am 128 }).toList 4 (((ws.drop lo).take r).map al)).toArray 124 (0,0))->Mods (fun k=>k=ab) w2 w3 ->
   w3.heap[ab]?=some (.cells (aG d { A with end_:=end_,tail:=t }) 124 (0,0))/\Turns (ap ab d A++aD d L) (ap ab d { A with end_:=end_,tail:=t }++aD d L) w w3:=fun w3 hh hm=>by
  have hc:w3.heap[ab]?=some (.cells (aG d { A with end_:=end_,tail:=t }) 124 (0,0)):=by
   rw[hh,CG d A end_ _ t (by rw[HWL.v];omega) (by rw[HWL.v];exact ht)]
  exact⟨hc,(H2.a).trans (ln H2.a.sat hm hc rfl rfl)⟩
 have HT:=Hq3 htw hcp ht;have hsz8:(Tryz.prog.info? 5).map (·.size)=some 1:=by kernel_rfl
 have HS8:=qqH hsz8;clear htw hcp ht hsz8;by_cases hcl:cap=lo
 ·have HR0:Hid (r=0):=qqH (by have:=HWL.e;omega);have hcl':=hcl.symm;clear hcl;subst hcl';refine wp_region_still_tail 11 HM.out (by kernel_rfl) ?_;simp only[QE,take_zero,QD,drop_zero];repeat still_step
  refine wpStill_nil ?_;change wpList _ _ _ _ _ w2.drew;refine gr rfl (.tmp 21) (.tmp 28) 35 35 rfl 5 Tryz.underlying35 HS8.out _ _ _ _ _ _ rfl rfl ab 4 (aG d { A with end_:=end_,tail:=am 128 }).toList 124 (by rw[Array.toArray_toList];exact H2.z) (((ws.drop lo).take r).map al) ?d1 ?d2 ?d3 (dW _) ?d4
  case d1=>rw[length_map,HWL.v];have:=HWL.e;show r=min (end_-lo) 128;omega
  case d2 =>
   intro hp;rw[length_map,HWL.v]at hp;have:=HR0.out;omega
  case d3=>rw[length_map,HWL.v];simp[cO,an];omega
  case d4 =>
   intro w3 hh hm hsz3;clear hsz3;obtain⟨hc3,hT3⟩:=HT.b w3 hh ((Mods.refl _ w2).drew.trans hm);have H3:=Hq2 hc3 hT3;have HTL:=qqH htl;clear hc3 hT3 hh hm c3 f3 i1 i3 j1 j2 j3 j4 htl;go_wp2_with (first|(refine wpList_load_mid rfl 121 (.tmp 32) rfl ab 4 rfl (t.map al) _ (oQ H3.a) Tryz.underlying121 rfl (iC HTL.out) ?_)|(refine wpList_store_mid rfl 121 (.tmp 7) (.tmp 33) rfl w3.heap.size 0 (t.map al).toArray rfl rfl ?d5 (iD HTL.out) (c9 _) ?_))
   case d5=>exact dr (aK w3 _) 0 _ (by rw[show eI=aw (am 128)from rfl,bN,an];simp[HTL.out])
   have hst:=pV (q:=q) hqc H3.z H.b HTL.out;have hne':H3.out=H3.out:=rfl;generalize hTT:w3.heap.size=T at hst ⊢;generalize (w3.alloc (.cells eI 121)).setCells T 0 (t.map al)=W0 at hst ⊢;have HST:=qqH hst;clear hst hTT hne' i2;go_loopw [8] (fun i wr=>sP ab d T A { A with end_:=end_,tail:=t } L q t w i wr) (fun i _=>A.count-(intOf i).toNat)
   case atStart=>exact HST.out
   case round =>
    obtain⟨m,L',hqm,rfl,hT',hL',hn',hnow',hch'⟩:=hrel;obtain⟨k,hk⟩:∃k,q+m=k:=⟨_,rfl⟩;have hab':=ik hT'.sat.tail;have a0:=aa hab' 0 (lK d _);have a1:=aa hab' 1 (lL d _);have a2:=aa hab' 2 (sD d _);simp only at a1 a2;have hTb:=hT'.sat.Q5;by_cases hlt:k<A.count
    ·have hcw:=H.c.keep (w':=wr) hT'.mods (fun g' off' e hin=>H.d _ e hin);obtain⟨g',off',e',hcl'⟩:=hcw (by rw[length_map,HWL.a];omega);simp only[Option.some.injEq,Addr.mk.injEq,and_true]at e';obtain⟨rfl,rfl⟩:=e';have hws:128*k+128<=ws.length:=by rw[HWL.a];omega
     have hrg:wr.rangeAt g (off+k*128) ((aM ws k).map al):=fun j v hv=>by
      obtain⟨hj,rfl⟩:=List.getElem?_eq_some_iff.1 hv;have hj':j<128:=by simp[aM]at hj;omega
      rw[show off+k*128+j=off+(k*128+j) by omega];refine(hcl' (k*128+j) (by rw[length_map];omega)).trans ?_;simp[aM,Nat.mul_comm]
     have hsl:(aM ws k).length=128:=by simp[aM];omega
     obtain⟨kk,hkk⟩:∃kk,k*128=kk:=⟨_,rfl⟩;have p1:((k:Int)*128)=(kk:Int):=by omega
     have p2:IntKind.i64.wrap (kk:Int)=(kk:Int):=IntWalk.i64_in _ (by omega);have p3:(kk:Int)<=(ws.length:Int):=by omega
     have p4:(ws.length:Int)<=(lo:Int):=by omega
     have p5:¬lo=kk:=by omega
     have p6:128<=ws.length-kk:=by omega
     rw[hkk]at hrg;have hkq:(k:Int)<(A.count:Int):=by omega
     have hwt:=fM HTL.out m;have hrT:wr.rangeAt T 0 ((bT t m).map al):=by have:=ex hTb 0 128;rwa [drop_zero,take_of_length_le (by omega)]at this
     have hcmp:=xc (aM ws k) (bT t m) hsl hwt;have HR:=qqH (And.intro hT' (And.intro hL' (And.intro hn' (And.intro hnow' (And.intro hch' (And.intro hrg (And.intro hrT (And.intro hcmp (And.intro hsl (And.intro hwt hk))))))))));have HK:=qqH hkk;clear hT' hL' hn' hnow' hch' hrg hrT hcmp hsl hwt hcl' hcw hTb hab' hkk hqm;simp only[hk];clear hk HST;have hal:ab<wr.heap.size:=World.block_lt_of_cell? wr _ a0;go_wp2_with fail;refine wp_region_still_lit HM.out (by kernel_rfl) ?_;repeat still_step
     refine si rfl (.tmp 47) rfl _ _ _ p6 rfl ?_;refine cw rfl 120 (.tmp 48) rfl g (off+kk) rfl ((aM ws k).map al) _ HR.f Tryz.underlying120 rfl (by rw[length_map,HR.out.2.2.2.2.2.2.2.2.1];kernel_rfl) ?_;refine cw rfl 121 (.tmp 7) rfl T 0 rfl ((bT t m).map al) _ HR.g Tryz.underlying121 rfl (iC HR.out.2.2.2.2.2.2.2.2.2.1) ?_;refine sj rfl .neq 120 (.tmp 49) (.tmp 50) _ rfl EA _ _ _ (HR.h _) rfl rfl ?_;refine wpStill_nil ?_;change Exit.then _ _ _ _ wr.drew
     simp only[Act.put,QA,QB,QC];by_cases heq:aM ws k=bT t m
     ·have hd0:(!decide (aM ws k=bT t m))=false:=by simp[heq]
      have hok:=H.e m;rw[HR.out.2.2.2.2.2.2.2.2.2.2]at hok;have hth:wr.drew.there T 0 128:=(World.there_drew _ _ _ _).2 (fL HR.a.sat.Q5 0 128 (by rw[HR.out.2.2.2.2.2.2.2.2.2.1];omega));have hsk:=fun w4 hs i hi=>Am (w4:=w4) HR.a HR.b HR.c HR.d HR.e (by rw[HR.out.2.2.2.2.2.2.2.2.2.2];omega) hA H.b.nowL HTL.out (by rw[HR.out.2.2.2.2.2.2.2.2.2.2];exact(hok (by omega) (heq.trans (by rw[<- HT.a];rfl))).trans (by rw[<- HT.a];rfl)) hs i hi
      have HSK:=qqH hsk;have HTH:=qqH hth;rw[hd0];clear hok hth hsk heq p5 p6 hd0;go_wp2_with (first|(refine bV rfl 121 #[] rfl (aw (am 128)) HZ.out ?_)|(refine wpList_store_mid rfl 121 (.tmp 7) (.tmp 67) rfl T 0 (aw (am 128)) rfl rfl ?d6 (iD (an 128)) (c9 _) ?_))
      case d6=>rw[bN,an];exact HTH.out
      go_roundw
      case rel=>exact HSK.out _ rfl _ (by rw[HR.out.2.2.2.2.2.2.2.2.2.2])
      case measure=>simp[intOf];omega
     ·have hd0:(!decide (aM ws k=bT t m))=true:=by simp[heq]
      have a0':wr.drew.cell? ⟨ab,0,none⟩=some (.pointer (some ⟨d,0,none⟩)):=a0;have a1':wr.drew.cell? ⟨ab,1,none⟩=some (.int .i64 A.first):=a1;have q1:IntKind.i64.wrap ((A.first:Int)+(k:Int))=(A.first:Int)+(k:Int):=IntWalk.i64_in _ (by omega);have hrT2:wr.drew.rangeAt T 0 ((bT t m).map al):=(World.rangeAt_drew _ _ _ _).2 HR.g;have HT2:=qqH hrT2
      have HWr:Hid (∀W,Sat W (aD d L')->Calls Tryz.prog 113 #[.pointer (some ⟨d,0,none⟩),.int .i64 ((A.first:Int)+k),.agg ((bT t m).map al).toArray] W (jP d L' (A.first+k) (bT t m) W)):=qqH (fun W hW=>by
       have:=jp d L' (A.first+k) (bT t m) W hW HR.b (by rw[HR.c];omega) HR.out.2.2.2.2.2.2.2.2.2.1 (by have:=HR.e;have:=HR.out.2.2.2.2.2.2.2.2.2.2;omega);exact this)
      rw[hd0];clear heq p5 p6 hd0 hrT2;obtain⟨wd,hwd⟩:∃wd,wd=wr.drew:=⟨_,rfl⟩;rw[<- hwd]at a0' a1' HT2 ⊢;have HWD:=qqH hwd;clear hwd;go_wp2_with fail;refine wp_region_still_tail 11 HM.out (by kernel_rfl) ?_;simp only[QE,take_zero,QD,drop_zero];iterate 10 still_step
      refine cw rfl 121 (.tmp 7) rfl T 0 rfl ((bT t m).map al) _ HT2.out Tryz.underlying121 rfl (iC HR.out.2.2.2.2.2.2.2.2.2.1) ?_;refine wpStill_nil ?_;simp only[Act.put,QA,QB,QC];change wpList _ _ _ _ _ wd.drew;go_wp2_with fail;have hsd:Sat wd.drew ((T,Is (.cells (aw (bT t m)) 121 (0,0)))::(ap ab d { A with end_:=end_,tail:=t }++aD d L')):=by rw[HWD.out];exact(HR.a.drew.drew).sat
      refine(HWr.out _ hsd.tail.right).mono ?_;rintro e w4 ⟨rfl,L2,hW,hL2,hn2,hnow2,hch2⟩;rw[HWD.out]at hW;have hTw:w4.heap[T]?=some (.cells (aw (bT t m)) 121 (0,0)):=hW.mods.at (by have:=(HR.a.drew.drew).sat.Q5;exact this) (fun hin=>(HR.a.drew.drew).sat.notMem (by rw[cF];exact mem_append_right _ hin));have hwr:=fun w5 hs i hi=>wL (w5:=w5) HR.a hW hL2 HR.c hn2 HR.d (by rw[HR.out.2.2.2.2.2.2.2.2.2.2];exact hnow2) HR.e hch2 (by rw[HR.out.2.2.2.2.2.2.2.2.2.2];omega) HTL.out hs i hi
      have HWF:=qqH hwr;have HTH:=qqH (fL hTw 0 128 (by rw[HR.out.2.2.2.2.2.2.2.2.2.1];omega));clear hW hL2 hn2 hnow2 hch2 hTw hwr hsd a0' a1' HWr HT2;go_wp2_with (first|(refine bV rfl 121 #[] rfl (aw (am 128)) HZ.out ?_)|(refine wpList_store_mid rfl 121 (.tmp 7) (.tmp 67) rfl T 0 (aw (am 128)) rfl rfl ?d7 (iD (an 128)) (c9 _) ?_))
      case d7=>rw[bN,an];exact HTH.out
      go_roundw
      case rel=>exact HWF.out _ rfl _ (by rw[HR.out.2.2.2.2.2.2.2.2.2.2])
      case measure=>simp[intOf];omega
    ·obtain rfl:k=A.count:=by omega
     have hch3:L'.chs.length<=1099511627776:=by omega
     have HFl:Hid (∀W,Sat W (aD d L')->Calls Tryz.prog 70 #[.pointer (some ⟨d,0,none⟩)] W (ll d L' W)):=qqH (fun W hW=>jm d L' W hW hL' hch3);have HR:=Hq5 hT' hL' hn' hnow' hk;have hal:ab<wr.heap.size:=World.block_lt_of_cell? wr _ a0;clear hT' hL' hn' hnow' hch' hab' hTb hqm HST;simp only[hk];clear hk;go_wp2_with fail;refine(HFl.out _ HR.a.sat.tail.right).mono ?_;rintro e w4 ⟨rfl,L2,hF,hL2,hn2,hnow2,hsafe2,hch2⟩;have hfin:=Eu HR.a hF;have HFin:=Hq6 hfin hL2 hn2 hnow2 hsafe2 hch2;clear hfin hF hL2 hn2 hnow2 hsafe2 hch2;go_wp2_with fail;go_ret;obtain⟨hfin,hL2,hn2,hnow2,hsafe2,hch2⟩:=HFin.out;have hm:m=A.count-q:=by have:=HR.w;omega
     rw[<- HWL.d]at *
     refine⟨rfl,L2,?_,hL2,hn2.trans HR.c,?_,hsafe2.trans hnow2.symm,hch2⟩
     ·rw[<- HT.a];exact hfin
     ·rw[hnow2,HR.d,hm,HT.a]
 ·refine wp_region_still_tail 11 HM.out (by kernel_rfl) ?_;simp only[QE,take_zero,QD,drop_zero];repeat still_step
  refine wpStill_nil ?_;change wpList _ _ _ _ _ w2.drew;refine gr rfl (.tmp 21) (.tmp 28) 35 35 rfl 5 Tryz.underlying35 HS8.out _ _ _ _ _ _ rfl rfl ab 4 (aG d { A with end_:=end_,tail:=am 128 }).toList 124 (by rw[Array.toArray_toList];exact H2.z) (((ws.drop lo).take r).map al) ?c1 ?c2 ?c3 (dW _) ?c4
  case c1=>rw[length_map,HWL.v];have:=HWL.e;show r=min (end_-lo) 128;omega
  case c2 =>
   intro hp;rw[length_map,HWL.v]at hp;refine⟨rfl,⟨g,off+lo,none⟩,by simp[],fun j v hv=>?_⟩;obtain⟨hj,rfl⟩:=List.getElem?_eq_some_iff.1 hv;have hj':j<r:=by rw[length_map,HWL.v]at hj;exact hj
   rw[Addr.add_lit];have hne:=H.d _ rfl
   have hcw:=ak.keep (w':=w2) H.c H2.a.mods (fun g' off' e hin=>by
    simp only[Option.some.injEq,Addr.mk.injEq,and_true]at e;exact hne (e.1 ▸ hin))
   obtain⟨g',off',e,hc'⟩:=hcw (by simp;have:=HWL.e;omega);simp only[Option.some.injEq,Addr.mk.injEq,and_true]at e;obtain⟨rfl,rfl⟩:=e;rw[show off+lo+j=off+(lo+j) by omega];refine(hc' (lo+j) (by simp;have:=HWL.e;omega)).trans ?_;simp
  case c3=>rw[length_map,HWL.v];simp[cO,an];omega
  case c4 =>
   intro w3 hh hm hsz3;clear hsz3;obtain⟨hc3,hT3⟩:=HT.b w3 hh ((Mods.refl _ w2).drew.trans hm);have H3:=Hq2 hc3 hT3;have HTL:=qqH htl;clear hc3 hT3 hh hm c3 f3 i1 i3 j1 j2 j3 j4 htl;go_wp2_with (first|(refine wpList_load_mid rfl 121 (.tmp 32) rfl ab 4 rfl (t.map al) _ (oQ H3.a) Tryz.underlying121 rfl (iC HTL.out) ?_)|(refine wpList_store_mid rfl 121 (.tmp 7) (.tmp 33) rfl w3.heap.size 0 (t.map al).toArray rfl rfl ?c5 (iD HTL.out) (c9 _) ?_))
   case c5=>exact dr (aK w3 _) 0 _ (by rw[show eI=aw (am 128)from rfl,bN,an];simp[HTL.out])
   have hst:=pV (q:=q) hqc H3.z H.b HTL.out;have hne':H3.out=H3.out:=rfl;generalize hTT:w3.heap.size=T at hst ⊢;generalize (w3.alloc (.cells eI 121)).setCells T 0 (t.map al)=W0 at hst ⊢;have HST:=qqH hst;clear hst hTT hne' i2;go_loopw [8] (fun i wr=>sP ab d T A { A with end_:=end_,tail:=t } L q t w i wr) (fun i _=>A.count-(intOf i).toNat)
   case atStart=>exact HST.out
   case round =>
    obtain⟨m,L',hqm,rfl,hT',hL',hn',hnow',hch'⟩:=hrel;obtain⟨k,hk⟩:∃k,q+m=k:=⟨_,rfl⟩;have hab':=ik hT'.sat.tail;have a0:=aa hab' 0 (lK d _);have a1:=aa hab' 1 (lL d _);have a2:=aa hab' 2 (sD d _);simp only at a1 a2;have hTb:=hT'.sat.Q5;by_cases hlt:k<A.count
    ·have hcw:=H.c.keep (w':=wr) hT'.mods (fun g' off' e hin=>H.d _ e hin);obtain⟨g',off',e',hcl'⟩:=hcw (by rw[length_map,HWL.a];omega);simp only[Option.some.injEq,Addr.mk.injEq,and_true]at e';obtain⟨rfl,rfl⟩:=e';have hws:128*k+128<=ws.length:=by rw[HWL.a];omega
     have hrg:wr.rangeAt g (off+k*128) ((aM ws k).map al):=fun j v hv=>by
      obtain⟨hj,rfl⟩:=List.getElem?_eq_some_iff.1 hv;have hj':j<128:=by simp[aM]at hj;omega
      rw[show off+k*128+j=off+(k*128+j) by omega];refine(hcl' (k*128+j) (by rw[length_map];omega)).trans ?_;simp[aM,Nat.mul_comm]
     have hsl:(aM ws k).length=128:=by simp[aM];omega
     obtain⟨kk,hkk⟩:∃kk,k*128=kk:=⟨_,rfl⟩;have p1:((k:Int)*128)=(kk:Int):=by omega
     have p2:IntKind.i64.wrap (kk:Int)=(kk:Int):=IntWalk.i64_in _ (by omega);have p3:(kk:Int)<=(ws.length:Int):=by omega
     have p4:(ws.length:Int)<=(cap:Int):=by omega
     have p5:¬cap=kk:=by omega
     have p6:128<=ws.length-kk:=by omega
     rw[hkk]at hrg;have hkq:(k:Int)<(A.count:Int):=by omega
     have hwt:=fM HTL.out m;have hrT:wr.rangeAt T 0 ((bT t m).map al):=by have:=ex hTb 0 128;rwa [drop_zero,take_of_length_le (by omega)]at this
     have hcmp:=xc (aM ws k) (bT t m) hsl hwt;have HR:=qqH (And.intro hT' (And.intro hL' (And.intro hn' (And.intro hnow' (And.intro hch' (And.intro hrg (And.intro hrT (And.intro hcmp (And.intro hsl (And.intro hwt hk))))))))));have HK:=qqH hkk;clear hT' hL' hn' hnow' hch' hrg hrT hcmp hsl hwt hcl' hcw hTb hab' hkk hqm;simp only[hk];clear hk HST;have hal:ab<wr.heap.size:=World.block_lt_of_cell? wr _ a0;go_wp2_with fail;refine wp_region_still_lit HM.out (by kernel_rfl) ?_;repeat still_step
     refine si rfl (.tmp 47) rfl _ _ _ p6 rfl ?_;refine cw rfl 120 (.tmp 48) rfl g (off+kk) rfl ((aM ws k).map al) _ HR.f Tryz.underlying120 rfl (by rw[length_map,HR.out.2.2.2.2.2.2.2.2.1];kernel_rfl) ?_;refine cw rfl 121 (.tmp 7) rfl T 0 rfl ((bT t m).map al) _ HR.g Tryz.underlying121 rfl (iC HR.out.2.2.2.2.2.2.2.2.2.1) ?_;refine sj rfl .neq 120 (.tmp 49) (.tmp 50) _ rfl EA _ _ _ (HR.h _) rfl rfl ?_;refine wpStill_nil ?_;change Exit.then _ _ _ _ wr.drew
     simp only[Act.put,QA,QB,QC];by_cases heq:aM ws k=bT t m
     ·have hd0:(!decide (aM ws k=bT t m))=false:=by simp[heq]
      have hok:=H.e m;rw[HR.out.2.2.2.2.2.2.2.2.2.2]at hok;have hth:wr.drew.there T 0 128:=(World.there_drew _ _ _ _).2 (fL HR.a.sat.Q5 0 128 (by rw[HR.out.2.2.2.2.2.2.2.2.2.1];omega));have hsk:=fun w4 hs i hi=>Am (w4:=w4) HR.a HR.b HR.c HR.d HR.e (by rw[HR.out.2.2.2.2.2.2.2.2.2.2];omega) hA H.b.nowL HTL.out (by rw[HR.out.2.2.2.2.2.2.2.2.2.2];exact(hok (by omega) (heq.trans (by rw[<- HT.a];rfl))).trans (by rw[<- HT.a];rfl)) hs i hi
      have HSK:=qqH hsk;have HTH:=qqH hth;rw[hd0];clear hok hth hsk heq p5 p6 hd0;go_wp2_with (first|(refine bV rfl 121 #[] rfl (aw (am 128)) HZ.out ?_)|(refine wpList_store_mid rfl 121 (.tmp 7) (.tmp 67) rfl T 0 (aw (am 128)) rfl rfl ?c6 (iD (an 128)) (c9 _) ?_))
      case c6=>rw[bN,an];exact HTH.out
      go_roundw
      case rel=>exact HSK.out _ rfl _ (by rw[HR.out.2.2.2.2.2.2.2.2.2.2])
      case measure=>simp[intOf];omega
     ·have hd0:(!decide (aM ws k=bT t m))=true:=by simp[heq]
      have a0':wr.drew.cell? ⟨ab,0,none⟩=some (.pointer (some ⟨d,0,none⟩)):=a0;have a1':wr.drew.cell? ⟨ab,1,none⟩=some (.int .i64 A.first):=a1;have q1:IntKind.i64.wrap ((A.first:Int)+(k:Int))=(A.first:Int)+(k:Int):=IntWalk.i64_in _ (by omega);have hrT2:wr.drew.rangeAt T 0 ((bT t m).map al):=(World.rangeAt_drew _ _ _ _).2 HR.g;have HT2:=qqH hrT2
      have HWr:Hid (∀W,Sat W (aD d L')->Calls Tryz.prog 113 #[.pointer (some ⟨d,0,none⟩),.int .i64 ((A.first:Int)+k),.agg ((bT t m).map al).toArray] W (jP d L' (A.first+k) (bT t m) W)):=qqH (fun W hW=>by
       have:=jp d L' (A.first+k) (bT t m) W hW HR.b (by rw[HR.c];omega) HR.out.2.2.2.2.2.2.2.2.2.1 (by have:=HR.e;have:=HR.out.2.2.2.2.2.2.2.2.2.2;omega);exact this)
      rw[hd0];clear heq p5 p6 hd0 hrT2;obtain⟨wd,hwd⟩:∃wd,wd=wr.drew:=⟨_,rfl⟩;rw[<- hwd]at a0' a1' HT2 ⊢;have HWD:=qqH hwd;clear hwd;go_wp2_with fail;refine wp_region_still_tail 11 HM.out (by kernel_rfl) ?_;simp only[QE,take_zero,QD,drop_zero];iterate 10 still_step
      refine cw rfl 121 (.tmp 7) rfl T 0 rfl ((bT t m).map al) _ HT2.out Tryz.underlying121 rfl (iC HR.out.2.2.2.2.2.2.2.2.2.1) ?_;refine wpStill_nil ?_;simp only[Act.put,QA,QB,QC];change wpList _ _ _ _ _ wd.drew;go_wp2_with fail;have hsd:Sat wd.drew ((T,Is (.cells (aw (bT t m)) 121 (0,0)))::(ap ab d { A with end_:=end_,tail:=t }++aD d L')):=by rw[HWD.out];exact(HR.a.drew.drew).sat
      refine(HWr.out _ hsd.tail.right).mono ?_;rintro e w4 ⟨rfl,L2,hW,hL2,hn2,hnow2,hch2⟩;rw[HWD.out]at hW;have hTw:w4.heap[T]?=some (.cells (aw (bT t m)) 121 (0,0)):=hW.mods.at (by have:=(HR.a.drew.drew).sat.Q5;exact this) (fun hin=>(HR.a.drew.drew).sat.notMem (by rw[cF];exact mem_append_right _ hin));have hwr:=fun w5 hs i hi=>wL (w5:=w5) HR.a hW hL2 HR.c hn2 HR.d (by rw[HR.out.2.2.2.2.2.2.2.2.2.2];exact hnow2) HR.e hch2 (by rw[HR.out.2.2.2.2.2.2.2.2.2.2];omega) HTL.out hs i hi
      have HWF:=qqH hwr;have HTH:=qqH (fL hTw 0 128 (by rw[HR.out.2.2.2.2.2.2.2.2.2.1];omega));clear hW hL2 hn2 hnow2 hch2 hTw hwr hsd a0' a1' HWr HT2;go_wp2_with (first|(refine bV rfl 121 #[] rfl (aw (am 128)) HZ.out ?_)|(refine wpList_store_mid rfl 121 (.tmp 7) (.tmp 67) rfl T 0 (aw (am 128)) rfl rfl ?c7 (iD (an 128)) (c9 _) ?_))
      case c7=>rw[bN,an];exact HTH.out
      go_roundw
      case rel=>exact HWF.out _ rfl _ (by rw[HR.out.2.2.2.2.2.2.2.2.2.2])
      case measure=>simp[intOf];omega
    ·obtain rfl:k=A.count:=by omega
     have hch3:L'.chs.length<=1099511627776:=by omega
     have HFl:Hid (∀W,Sat W (aD d L')->Calls Tryz.prog 70 #[.pointer (some ⟨d,0,none⟩)] W (ll d L' W)):=qqH (fun W hW=>jm d L' W hW hL' hch3);have HR:=Hq5 hT' hL' hn' hnow' hk;have hal:ab<wr.heap.size:=World.block_lt_of_cell? wr _ a0;clear hT' hL' hn' hnow' hch' hab' hTb hqm HST;simp only[hk];clear hk;go_wp2_with fail;refine(HFl.out _ HR.a.sat.tail.right).mono ?_;rintro e w4 ⟨rfl,L2,hF,hL2,hn2,hnow2,hsafe2,hch2⟩;have hfin:=Eu HR.a hF;have HFin:=Hq6 hfin hL2 hn2 hnow2 hsafe2 hch2;clear hfin hF hL2 hn2 hnow2 hsafe2 hch2;go_wp2_with fail;go_ret;obtain⟨hfin,hL2,hn2,hnow2,hsafe2,hch2⟩:=HFin.out;have hm:m=A.count-q:=by have:=HR.w;omega
     rw[<- HWL.d]at *
     refine⟨rfl,L2,?_,hL2,hn2.trans HR.c,?_,hsafe2.trans hnow2.symm,hch2⟩
     ·rw[<- HT.a];exact hfin
     ·rw[hnow2,HR.d,hm,HT.a]
theorem vT{l:Bs}{first count k:Nat}(h:k<count):aM (aC l first count) k=aM l (first+k):=by
 unfold aM aC;rw[drop_take,drop_drop,take_take];congr 1
 ·omega
 ·congr 1;omega
def dM(H:Bs)(at_ n i:Nat):Bs:=(H.take (min (128*i) (at_+n))).drop at_
theorem rL(H:Bs)(at_ n:Nat):dM H at_ n (at_ / 128)=[]:=by
 unfold dM;exact drop_of_length_le (by rw[length_take];omega)
theorem Di{H:Bs}{at_ n i:Nat}(hi:128*i<at_+n)(_:at_ / 128<=i)(hH:at_+n<=H.length):
  dM H at_ n (i+1)=dM H at_ n i++((aM H i).take (min 128 (at_+n-128*i))).drop (at_-128*i):=by
 unfold dM aM;rw[Nat.min_eq_left (show 128*i<=at_+n by omega),take_take,show min (min 128 (at_+n-128*i)) 128=min 128 (at_+n-128*i) by omega];have e:min (128*(i+1)) (at_+n)=128*i+min 128 (at_+n-128*i):=by omega
 rw[e,take_add,drop_append];congr 2;rw[length_take];omega
theorem FV{H:Bs}{at_ n i:Nat}(hi:¬128*i<at_+n):dM H at_ n i=(H.drop at_).take n:=by
 unfold dM;rw[Nat.min_eq_right (by omega),drop_take,Nat.add_sub_cancel_left]
theorem yC{H:Bs}{at_ n i:Nat}:(dM H at_ n i).length<=n:=by
 unfold dM;rw[length_drop,length_take];omega
def E5(ab d:Nat)(A:AreaL)(g cap:Nat)(l:Bs)(_ _:Nat)(w:World)(e:Ending)(w':World):Prop :=
 e=.returned (.tuple #[])/\∃sp,Turns (aA (.slice (some ⟨g,0,none⟩) l.length cap) l++ap ab d A) (ap ab d { A with spare:=sp }) w w'/\AreaOk { A with spare:=sp }
theorem LN(ab d:Nat)(A:AreaL)(g cap:Nat)(l:Bs)(B0 B1:Nat)(u:FrameMode)(w:World)(h:Sat w (aA (.slice (some ⟨g,0,none⟩) l.length cap) l++ap ab d A))(hA:AreaOk A)(h0:w.cell? ⟨B0,0,none⟩=some (.pointer (some ⟨ab,0,none⟩)))(h1:w.cell? ⟨B1,0,none⟩=some (.slice (some ⟨g,0,none⟩) l.length cap)):
  CallsD Tryz.prog 132 #[.pointer (some ⟨B0,0,none⟩),.pointer (some ⟨B1,0,none⟩)] u w (fun e u' w'=>u'=u/\E5 ab d A g cap l B0 B1 w e w'):=by
 have HB:=qqH (CP ab d A g cap l w h hA);clear h hA;go_enter_d Tryz.func132,Tryz.ntmps132;go_wp2_with fail;refine HB.out.mono ?_;rintro e w' ⟨rfl,hb⟩;have H:=qqH hb;clear hb;go_wp2_with fail;go_end0;exact⟨rfl,H.out⟩
def fb(v:Value):Obj:=.cells #[v] 35 (0,0)
def Eo(ab d:Nat)(A:AreaL)(H:Bs)(at_ n B0 B1:Nat)(R:HF)(w:World)(i:Value)(wr:World):Prop :=
 ∃k g cv sp,at_ / 128<=k/\128*k<=at_+n+127/\i=.int .i64 ((k:Nat):Int)/\bOk (.slice (some ⟨g,0,none⟩) (dM H at_ n k).length cv) (dM H at_ n k)/\AreaOk { A with spare:=sp } /\
  Turns (ap ab d A++R) (aA (.slice (some ⟨g,0,none⟩) (dM H at_ n k).length cv) (dM H at_ n k)++((B1,Is (fb (.slice (some ⟨g,0,none⟩) (dM H at_ n k).length cv)))::(B0,Is (.cells #[.pointer (some ⟨ab,0,none⟩)] 56 (0,0)))::(ap ab d { A with spare:=sp }++R))) w wr
def Ia(ab d:Nat)(A:AreaL)(R0:HF)(Pf:HF->Prop)(w:World)(e:Ending)(w':World):Prop :=
 e=.returned .nilIface/\∃R1 sp,Pf R1/\AreaOk { A with spare:=sp }/\Turns (ap ab d A++R0) (ap ab d { A with spare:=sp }++R1) w w'
def Fb(ab d:Nat)(A:AreaL)(R0:HF)(Pf:HF->Prop)(B0 B1 g cv:Nat)(sp:List (Nat×Nat×Nat))(data:Bs)(w:World)(e:Ending)(w':World):Prop :=
 e=.returned .nilIface/\∃R1,Pf R1/\Turns (ap ab d A++R0) (aA (.slice (some ⟨g,0,none⟩) data.length cv) data++((B1,Is (fb (.slice (some ⟨g,0,none⟩) data.length cv)))::(B0,Is (.cells #[.pointer (some ⟨ab,0,none⟩)] 56 (0,0)))::(ap ab d { A with spare:=sp }++R1))) w w'
theorem CE(ab d:Nat)(A:AreaL)(L:DevL)(at_ n:Nat)(p0 p1 p2:Value)(H:Bs)(hH:H=aC L.now A.first A.count)(R0:HF)(Pf:HF->Prop)(w:World)(h:Sat w (ap ab d A++R0))(hsub:∀a,cnt a (aD d L)<=cnt a R0)(hL:DevOk L)(hA:AreaOk A)(hAn:A.first+A.count<=L.n)(hn:L.n<=1073741824)(hfit:at_+n<=128*A.count)(hf:∀(W:World) (B0 B1 g cv:Nat) sp,bOk (.slice (some ⟨g,0,none⟩) ((H.drop at_).take n).length cv) ((H.drop at_).take n)->Turns (ap ab d A++R0) (aA (.slice (some ⟨g,0,none⟩) ((H.drop at_).take n).length cv) ((H.drop at_).take n)++((B1,Is (fb (.slice (some ⟨g,0,none⟩) ((H.drop at_).take n).length cv)))::(B0,Is (.cells #[.pointer (some ⟨ab,0,none⟩)] 56 (0,0)))::(ap ab d { A with spare:=sp }++R0))) w W ->
   Calls Tryz.prog 109 #[.slice (some ⟨g,0,none⟩) ((H.drop at_).take n).length cv,p0,p1,p2] W (Fb ab d A R0 Pf B0 B1 g cv sp ((H.drop at_).take n) w)):
  Calls Tryz.prog 108 #[.pointer (some ⟨ab,0,none⟩),.int .i64 at_,.int .i64 n,.func (.func 109) #[] #[p0,p1,p2]] w (Ia ab d A R0 Pf w):=by
 have hmf:∀(fn:Fn) (first cap:Array Value) (w:World),(Instr.makeFunc fn first cap).run Tryz.prog w=.ok (.func fn first cap) w:=fun _ _ _ _=>rfl
 have HB:Hid (∀W,Sat W (ap ab d A)->Calls Tryz.prog 131 #[.pointer (some ⟨ab,0,none⟩)] W (sN ab d A W)):=qqH (fun W hW=>yg ab d A W hW hA);have hb1:(at_:Int)+n<=1099511627776:=by omega
 have hb2:(at_:Int)<=1099511627776:=by omega
 have hc1:A.count<=1073741824:=by omega
 have hHl:H.length=128*A.count:=by rw[hH];exact fH hL.nowL (by omega)
 have HH:=qqH (And.intro h (And.intro hL (And.intro hA (And.intro hAn (And.intro hn (And.intro hfit (And.intro hsub (And.intro hHl (And.intro hH hc1)))))))));have HIn:=qqH hf;clear h hL hA hAn hn hfit hf hsub hHl hH hc1;go_enter_defers Tryz.func108,Tryz.ntmps108;go_wp2_with fail;refine(HB.out _ ((HH.a.left).same ((Mods.refl _ w).alloc _))).mono ?_;rintro e w1 ⟨bg,cv,sp,rfl,hok,hT,hAok,-⟩;have hT0:Turns (ap ab d A++R0) ((w.heap.size,Is (.cells #[.pointer (some ⟨ab,0,none⟩)] 56 (0,0)))::(ap ab d A++R0)) w _:=(Turns.refl HH.a).Q8 (.cells #[.pointer (some ⟨ab,0,none⟩)] 56);have hT1:=hT0.step (F:=ap ab d A) (R:=(w.heap.size,Is (.cells #[.pointer (some ⟨ab,0,none⟩)] 56 (0,0)))::R0) ac hT;have b0:=aa (hT1.sat.Q7 (b:=w.heap.size) (o:=.cells #[.pointer (some ⟨ab,0,none⟩)] 56 (0,0)) (by simp)) 0 rfl;have hB0':w.heap.size<w1.heap.size:=World.block_lt_of_cell? w1 _ b0;have hst:=hT1.Q8 (fb (.slice (some ⟨bg,0,none⟩) 0 cv))
 have hst2:Eo ab d A H at_ n w.heap.size w1.heap.size R0 w (.int .i64 ((at_ / 128:Nat):Int)) (w1.alloc (fb (.slice (some ⟨bg,0,none⟩) 0 cv))):=by
  refine⟨at_ / 128,bg,cv,sp,Nat.le_refl _,by omega,rfl,?_,hAok,?_⟩
  ·rw[rL];exact hok
  ·rw[rL,length_nil];exact hst.to ac
 have H1:=qqH hst2;clear hT0 hT1 hst hok hAok hT hst2;obtain⟨B0,hB0⟩:∃B0,w.heap.size=B0:=⟨_,rfl⟩;obtain⟨B1,hB1⟩:∃B1,w1.heap.size=B1:=⟨_,rfl⟩;rw[hB0,hB1]at H1;have e128:((at_ / 128:Nat):Int)=(at_:Int) / 128:=by omega
 rw[e128]at H1;clear e128;go_wp2_with fail;go_loopw [10] (fun i wr=>Eo ab d A H at_ n B0 B1 R0 w i wr) (fun i _=>at_+n+128-128*(intOf i).toNat)
 case atStart=>exact H1.out
 case round =>
  obtain⟨k,g,cv2,sp2,hk1,hk2,rfl,hok,hAo,hT⟩:=hrel;by_cases hlt:128*k<at_+n
  ·have hkc:k<A.count:=by have:=HH.f;omega
   have hnn:=HH.out.2.2.2.2.2.2.2.2.2;obtain⟨s,hs⟩:∃s,s=aM H k:=⟨_,rfl⟩;have hsL:aM L.now (A.first+k)=s:=by rw[hs,HH.out.2.2.2.2.2.2.2.2.1,vT hkc]
   have hsl:s.length=128:=by rw[hs];exact iE HH.h hkc
   have HSL:=qqH hsl
   have HRd:Hid (∀W,Sat W (aD d L)->Calls Tryz.prog 115 #[.pointer (some ⟨d,0,none⟩),.int .i64 ((A.first:Int)+(k:Nat))] W (fun e w'=>e=.returned (.tuple #[.agg (aw s),.nilIface])/\aQ W w')):=qqH (fun W hW=>by
    have:=lI d L (A.first+k) W hW HH.b (by have:=HH.d;omega);unfold jZ at this;rw[hsL]at this;exact this)
   have HSUM:=qqH (show IntKind.i64.wrap ((A.first:Int)+(k:Nat))=(A.first:Int)+(k:Nat)from IntWalk.i64_in _ (by have:=HH.d;have:=HH.e;omega));have HR:=Hq5 hok hAo hT hs hkc;have hlt':(128:Int)*k<at_+n:=by omega
   clear hok hAo hT hs hkc hsl hsL;go_upto_region 6 with(fail);refine zj [0,1,2,3,4,5,6,7,8,9] (.two 10 [] [11,12,13] (.one 14 [0,1,2,3,4,5,6,7,8,9,11,12,13] [] (.one 15 [13] [16] .fin)) 14 [0,1,2,3,4,5,6,7,8,9] [] (.one 10 [] [11,12,13] (.one 15 [13] [16] .fin))) HM.out (by kernel_rfl) fun W tW=>?_
   simp only[sS,map_cons,map_nil,nth,QG,QF];have hT:=tW HR.c;clear tW
   have key:∀{W:World} {F:HF},Sat W F->(∀a,cnt a ((B0,Is (.cells #[.pointer (some ⟨ab,0,none⟩)] 56 (0,0)))::(ap ab d { A with spare:=sp2 }++R0))<=cnt a F)->W.cell? ⟨B0,0,none⟩=some (.pointer (some ⟨ab,0,none⟩))/\W.cell? ⟨ab,0,none⟩=some (.pointer (some ⟨d,0,none⟩))/\W.cell? ⟨ab,1,none⟩=some (.int .i64 A.first)/\Sat W (aD d L):=fun hs hm=>by
    have h1:=hs.sub hm;exact⟨aa h1.Q5 0 rfl,aa (ik h1.tail) 0 (lK d _),aa (ik h1.tail) 1 (lL d _),h1.sub (fun a=>by have:=HH.g a;simp only[ao,ai];omega)⟩
   have g9:=HSUM.out;obtain⟨k1,k2,k3,k4⟩:=key hT.sat bB;repeat still_step
   refine wpStill_nil ⟨aU (by kernel_rfl) (HRd.out W k4) ?A,i8 (.cells (aw (am 128)) 121 (0,0)) (fun n=>.pointer (some ⟨n,0,none⟩)) (by kernel_rfl) hT fun g14 W1 hT1=>⟨by(obtain⟨k1,k2,k3,k4⟩:=key hT1.sat bB;(repeat still_step);exact rfl),wpStill_nil (aU (by kernel_rfl) (HRd.out W1 (key hT1.sat bB).2.2.2) ?B)⟩⟩
   case' A =>
    rintro e W1 ⟨rfl,hs⟩;have hT1:=hT.Q9 hs;refine⟨_,rfl,rfl,?_⟩;simp only[Act.put,QA,QB,QC];repeat still_step
    refine wpStill_nil (i8 (.cells (aw (am 128)) 121 (0,0)) (fun n=>.pointer (some ⟨n,0,none⟩)) (by kernel_rfl) hT1 fun g14 W2 hT2=>⟨by(obtain⟨k1,k2,k3,k4⟩:=key hT2.sat bB;(repeat still_step);exact rfl),wpStill_nil ?_⟩)
   case' B =>
    rintro e W2 ⟨rfl,hs⟩;have hT2:=hT1.Q9 hs;refine⟨_,rfl,rfl,?_⟩;simp only[Act.put,QA,QB,QC];repeat still_step
    refine wpStill_nil ?_
   all_goals
    refine ny 121 (.tmp 11) (.tmp 40) rfl g14 (aw (am 128)) (aw s) _ hT2 rfl rfl (by rw[bN,bN,HSL.out,an]) (iD HSL.out) (c9 _) fun W3 hT3=>⟨by(repeat still_step);exact rfl,?_⟩
    simp only[Act.put,QA,QB,QC];repeat still_step
    refine wpStill_nil ?_;clear key hT1 g9 k1 k2 k3 k4;have b1:=aa (hT3.sat.Q7 (b:=B1) (o:=fb (.slice (some ⟨g,0,none⟩) (dM H at_ n k).length cv2)) (by simp)) 0 rfl;have f1:=bc (hT3.sat.Q7 (b:=B1) (o:=fb (.slice (some ⟨g,0,none⟩) (dM H at_ n k).length cv2)) (by simp)) 0;have H3:=qqH hT3;clear hT3 hT2 hT;obtain⟨lo,hlo⟩:∃lo,lo=at_-128*k:=⟨_,rfl⟩;obtain⟨hi,hhi⟩:∃hi,hi=min 128 (at_+n-128*k):=⟨_,rfl⟩;have m1:max (0:Int) ((at_:Int)-(k:Nat)*128)=(lo:Int):=by omega
    have m2:min (128:Int) ((at_:Int)+n-(k:Nat)*128)=(hi:Int):=by omega
    have m3:(lo:Int)<=hi:=by omega
    have m4:(hi:Int)<=128:=by omega
    have HLH:=Hq2 hlo hhi;clear hlo hhi;go_upto_region 11 with(fail);have m5:¬lo=128:=by have:=HLH.a;omega
    have m7:¬128=lo:=by omega
    have m6:(lo:Int)<=128:=by omega
    obtain⟨r,hr⟩:∃r,r=(s.take hi).drop lo:=⟨_,rfl⟩;have hrl:r.length=hi-lo:=by rw[hr,length_drop,length_take,HSL.out];omega
    have hgn:dM H at_ n (k+1)=dM H at_ n k++r:=by
     rw[hr,HR.d,HLH.a,HLH.z];exact Di (by omega) hk1 (by rw[HH.h];exact HH.f)
    have hcr:ak W3 (some ⟨g14,lo,none⟩) (r.map al):=fun _=>⟨g14,lo,rfl,fun j hj=>by
     have hj':j<hi-lo:=by simpa[hrl]using hj
     have hx:=H3.out.sat.Q5;refine aa hx (lo+j) ?_;rw[gi s (lo+j) (by rw[HSL.out];omega)];simp[hr]⟩
    have hgl:=yC (H:=H) (at_:=at_) (n:=n) (i:=k+1);have H4:=Hq4 hrl hgn hcr hgl;clear hr hrl hgn hcr hgl;refine wp_region_still_tail 4 HM.out (by kernel_rfl) ?_;simp only[QE,take_zero,QD,drop_zero];iterate 4 still_step
    refine wpStill_nil ?_;change wpList _ _ _ _ _ W3.drew;have hTd:=H3.out.drew.to (H:=aA (.slice (some ⟨g,0,none⟩) (dM H at_ n k).length cv2) (dM H at_ n k)++((g14,Is (.cells (aw s) 121 (0,0)))::((B1,Is (fb (.slice (some ⟨g,0,none⟩) (dM H at_ n k).length cv2)))::(B0,Is (.cells #[.pointer (some ⟨ab,0,none⟩)] 56 (0,0)))::(ap ab d { A with spare:=sp2 }++R0)))) ac;refine ah rfl (fu (.tmp 57) (.tmp 60) rfl (.slice (some ⟨g,0,none⟩) (dM H at_ n k).length cv2) (dM H at_ n k) rfl hTd HR.a (some ⟨g14,lo,none⟩) (hi-lo) _ rfl r H4.a.symm (ak.of_heap rfl H4.c) (by have h1:=H4.x;rw[H4.b,length_append]at h1;have:=HH.f;have:=HH.out.2.2.2.2.2.2.2.2.2;omega) ?_);intro av cv3 w4 hok4 hT4 hav
    obtain⟨gx,cx,rfl⟩:∃gx:Nat,∃_:Unit,av=some ⟨gx,0,none⟩:=by
     cases av with
     | none=>exact absurd (hav rfl).1 (by simp)
     | some ad =>
      have hO:=cZ hT4.sat.left hok4;rcases hO.2 with⟨hv,_⟩|⟨gg,cap,cur,hv,_⟩
      ·cases hv
      ·simp only[Value.slice.injEq,Option.some.injEq]at hv;exact⟨gg,(),by rw[hv.1]⟩
    rw[<- H4.b]at hok4 hT4 ⊢;have hb1:=hT4.sat.Q7 (b:=B1) (o:=fb (.slice (some ⟨g,0,none⟩) (dM H at_ n k).length cv2)) (by simp);have c1:=aa hb1 0 rfl;have d1:=bc hb1 0;have hT5:=(hT4.to (H:=(B1,Is (fb (.slice (some ⟨g,0,none⟩) (dM H at_ n k).length cv2)))::(aA (.slice (some ⟨gx,0,none⟩) (dM H at_ n (k+1)).length cv3) (dM H at_ n (k+1))++((g14,Is (.cells (aw s) 121 (0,0)))::((B0,Is (.cells #[.pointer (some ⟨ab,0,none⟩)] 56 (0,0)))::(ap ab d { A with spare:=sp2 }++R0))))) ac).Qa ((Mods.refl (fun k=>k=B1) w4).set1 (i:=0) (.slice (some ⟨gx,0,none⟩) (dM H at_ n (k+1)).length cv3)) (bn hb1 0 _);have hT6:=hT5.drop (H:=aA (.slice (some ⟨gx,0,none⟩) (dM H at_ n (k+1)).length cv3) (dM H at_ n (k+1))++((B1,Is (fb (.slice (some ⟨gx,0,none⟩) (dM H at_ n (k+1)).length cv3)))::(B0,Is (.cells #[.pointer (some ⟨ab,0,none⟩)] 56 (0,0)))::(ap ab d { A with spare:=sp2 }++R0))) (fun _=>by simp only[ao,ai];show _<=Iq _ (B1,Is (fb (.slice (some ⟨gx,0,none⟩) (dM H at_ n (k+1)).length cv3)))+_;omega);have H6:=Hq2 hok4 hT6;clear hok4 hT4 hT5 hT6 hb1 hav hTd b1 f1;go_wp2_with fail;go_roundw
    case rel=>exact⟨k+1,gx,cv3,sp2,by omega,by omega,by go_num,H6.a,HR.b,H6.z⟩
    case measure=>simp[intOf];omega
  ·have hge:=FV (H:=H) (at_:=at_) (n:=n) (i:=k) hlt;rw[hge]at hok hT;obtain⟨data,hd⟩:∃data,data=(H.drop at_).take n:=⟨_,rfl⟩;have HIn2:=qqH (HIn.out wr B0 B1 g cv2 sp2);rw[<- hd]at hok hT HIn2;have b1:=aa (hT.sat.Q7 (b:=B1) (o:=fb (.slice (some ⟨g,0,none⟩) data.length cv2)) (by simp)) 0 rfl;have HR:=Hq3 hok hAo hT;have hlt':¬(128:Int)*k<at_+n:=by omega
   clear hok hAo hT hge hd HIn;go_wp2_with fail;refine(HIn2.out HR.a HR.y).mono ?_;rintro e w3 ⟨rfl,R1,hP,hT3⟩;have H3:=Hq2 hP hT3;clear hP hT3;go_wp2_with fail;have hsat:=H3.z.sat;have hb0:=hsat.Q7 (b:=B0) (o:=.cells #[.pointer (some ⟨ab,0,none⟩)] 56 (0,0)) (by simp);have hb1:=hsat.Q7 (b:=B1) (o:=fb (.slice (some ⟨g,0,none⟩) data.length cv2)) (by simp);refine leaves_cons (f:=132) (args:=#[.pointer (some ⟨B0,0,none⟩),.pointer (some ⟨B1,0,none⟩)]) (by simp) (by simp[go_sem]) ?_;refine(LN ab d { A with spare:=sp2 } g cv2 data B0 B1 .returning _ (hsat.sub bB) HR.b (aa hb0 0 rfl) (aa hb1 0 rfl)).mono ?_;rintro e u' w4 ⟨rfl,rfl,sp3,hT4,hA4⟩;have hT5:=H3.z.step (F:=aA (.slice (some ⟨g,0,none⟩) data.length cv2) data++ap ab d { A with spare:=sp2 }) (R:=(B1,Is (fb (.slice (some ⟨g,0,none⟩) data.length cv2)))::(B0,Is (.cells #[.pointer (some ⟨ab,0,none⟩)] 56 (0,0)))::R1) ac hT4;exact⟨_,results_tmp rfl _ _ _,rfl,R1,sp3,H3.a,hA4,hT5.drop bB⟩
def bG(e wh:Nat):Bs:=be e 4++be wh 4
def cH(e wh:Nat):Bs:=frame 77 (bG e wh)++am 111
theorem cn(e wh:Nat):(bG e wh).length=8:=by simp[bG,cd]
theorem co(e wh:Nat):(cH e wh).length=128:=by rw[cH,length_append,aX,cn,an]
theorem tz(n:Nat)(hn:n<4294967296):(be n 4).map al=[.int .u8 ((n:Int) / 16777216),.int .u8 ((n:Int) / 65536%256),.int .u8 ((n:Int) / 256%256),.int .u8 ((n:Int)%256)]:=by
 simp only[be,map_cons,map_nil,al,UInt8.toNat_ofNat'];have e1:((n / 256 ^ 3%2 ^ 8:Nat):Int)=(n:Int) / 16777216:=by omega
 have e2:((n / 256 ^ 2%2 ^ 8:Nat):Int)=(n:Int) / 65536%256:=by omega
 have e3:((n / 256 ^ 1%2 ^ 8:Nat):Int)=(n:Int) / 256%256:=by omega
 have e4:((n / 256 ^ 0%2 ^ 8:Nat):Int)=(n:Int)%256:=by omega
 rw[e1,e2,e3,e4]
theorem ic(w:World)(xs:List Value)(t:TypeId):∀j u,xs[j]?=some u->(w.alloc (.cells xs.toArray t)).cell? ((⟨w.heap.size,0,none⟩:Addr).add j)=some u:=fun j u hu=>by
 rw[Addr.add_mid,Nat.zero_add];exact aa (aK w _) j (by simpa using hu)
theorem qZ{w:World}{b e n:Nat}{v:Value}{xs:List Value}(h:w.ownsRow b e 1 v n xs):∃a cap,v=.slice a n cap/\xs.length=n/\n<=cap/\ak w a xs/\∀x,a=some x->v.ownBlock=some x.block:=by
 have hl:xs.length=n:=by simpa using h.1
 rcases h.2 with⟨rfl,rfl⟩|⟨g,cap,cur,rfl,hb,hg,hnc,hcm,hcs,htk⟩
 ·exact⟨none,0,rfl,hl,Nat.le_refl _,fun hp=>by omega,fun x hx=>by cases hx⟩
 ·refine⟨_,cap,rfl,hl,hnc,fun _=>⟨g,0,rfl,fun j hj=>?_⟩,fun x hx=>by simp at hx;subst hx;rfl⟩;rw[Nat.zero_add];refine aa hg j ?_;have:(cur.toList.take (n*1))[j]?=some xs[j]:=by rw[htk];simp[hj]
  rw[getElem?_take]at this;split at this
  ·simpa using this
  ·cases this
theorem Ef{P:Program}{w:World}{o:Oper}{a:Act}{K:Act->World->Prop}{Q:Exit->Act->World->Prop}(d s:Operand)(dT sT:TypeId)(ho:o.op=.call { callee:=.builtin .copy,args:=#[d,s],argTypes:=#[dT,sT] })(elem:TypeId)(hu:P.underlying dT=some (.slice elem))(hsz:(P.info? elem).map (·.size)=some 1)(dp sp:Option Addr)(dLen dCap sLen sCap:Nat)(hd:a.eval d=.slice dp dLen dCap)(hs:a.eval s=.slice sp sLen sCap)(g off:Nat)(cur:List Value)(t:TypeId)(hg:w.heap[g]?=some (.cells cur.toArray t (0,0)))(cs:List Value)(hn:cs.length=Nat.min sLen dLen)(hpos:0<cs.length->dp=some ⟨g,off,none⟩/\∃ad,sp=some ad/\∀j v,cs[j]?=some v->w.cell? (ad.add j)=some v)(hfit:off+cs.length<=cur.length)(h1:∀v∈cs,v.oneCell'=true)(h:∀w',w'.heap[g]?=some (.cells (splice cur off cs).toArray t (0,0))->Mods (fun k=>k=g) w w'->K (a.put o.dst (goInt cs.length)) w'):Oper.wp P o a w K Q:=by
 by_cases h0:cs.length=0
 ·obtain rfl:cs=[]:=eq_nil_of_length_eq_zero h0;have hrun:=run_copy_none (P:=P) w dT sT o.type elem dp sp dLen dCap sLen sCap hu hsz (by simpa using hn.symm);unfold Oper.wp;simp[execOp,ho,resolve,invoke,builtin,hd,hs,hrun,Result.andThen];exact h w (by simpa[splice]using hg) (Mods.refl _ _)
 ·obtain⟨rfl,ad,rfl,hsrc⟩:=hpos (by omega);have hrun:=run_copy_row (P:=P) w dT sT o.type elem g off dLen dCap ad sLen sCap cur.toArray t cs hu hsz hg hn hsrc (by simpa using hfit) h1;unfold Oper.wp;simp[execOp,ho,resolve,invoke,builtin,hd,hs,hrun,Result.andThen];refine h _ ?_ ?_
  ·simpa[splice]using setRow_heap w g _ _ t _ hg
  ·exact Mods.setRow (S:=fun k=>k=g) (Mods.refl _ _) (.inl rfl) _
def Hp(e wh:Nat)(w:World)(v i:Value)(wr:World):Prop :=
 ∃k:Nat,k<=2/\i=.int .i64 k/\bOk v ((bG e wh).take (4*k)) /\
  Turns [] (aA v ((bG e wh).take (4*k))++[(w.heap.size+2,Is (.cells eI 121 (0,0))),(w.heap.size+1,Is (.cells eI 121 (0,0)))]) w wr
theorem r9{e wh:Nat}{w wr w3:World}{v v':Value}{k x:Nat}{o:Obj}{ys:List Value}(_:x<4294967296)(hk:k<2)(hs:(bG e wh).take (4*(k+1))=(bG e wh).take (4*k)++be x 4)(hT:Turns [] (aA v ((bG e wh).take (4*k))++[(w.heap.size+2,Is (.cells eI 121 (0,0))),(w.heap.size+1,Is (.cells eI 121 (0,0)))]) w wr)(hy:ys=(be x 4).map al)(hown:w3.ownsRow 0 5 1 v' (((bG e wh).take (4*k)).length+4) (((bG e wh).take (4*k)).map al++ys))(hgrow:(wr.alloc o).grownBy w3 v.ownBlock)(hg:∀g,v'.ownBlock=some g->v.ownBlock=some g\/(wr.alloc o).heap.size<=g)(i:Value)(hi:i=.int .i64 ((k+1:Nat):Int)):Hp e wh w v' i w3:=by
 subst hy;obtain⟨h1,h2⟩:=jE (hT.alloc o) (n:=4) (by simp[cd]) hown hgrow hg;exact⟨k+1,by omega,hi,by rw[hs];exact h1,by rw[hs];exact h2⟩
theorem vZ{e wh:Nat}(h:(frame 77 (bG e wh)).length=17):(splice ((am 128).map al) 0 ((frame 77 (bG e wh)).map al)).toArray=aw (cH e wh):=by
 unfold splice cH aw;rw[take_zero,nil_append,length_map,h,<- map_drop,<- map_append,Nat.zero_add];congr 2
def Cw(e wh:Nat)(w:World)(ev:Ending)(w':World):Prop:=ev=.returned (.agg (aw (cH e wh)))/\aQ w w'
theorem mg(e wh:Nat)(he:e<4294967296)(hw:wh<4294967296)(w:World):Calls Tryz.prog 114 #[.agg #[.int .u32 e,.int .u32 wh]] w (Cw e wh w):=by
 have hz:=nY;have x0:∀W,(Instr.index 271 (.agg #[.int .u32 e,.int .u32 wh]) (.int .i64 0)).run Tryz.prog W=.ok (.int .u32 e) W:=fun W=>by kernel_rfl
 have x1:∀W,(Instr.index 271 (.agg #[.int .u32 e,.int .u32 wh]) (.int .i64 1)).run Tryz.prog W=.ok (.int .u32 wh) W:=fun W=>by kernel_rfl
 have hst:Turns [] (aA (.slice none 0 0) ((bG e wh).take 0)++[(w.heap.size+2,Is (.cells eI 121 (0,0))),(w.heap.size+1,Is (.cells eI 121 (0,0)))]) w (((w.alloc (.cells #[.int .u32 e,.int .u32 wh] 179)).alloc (.cells eI 121)).alloc (.cells eI 121)):=by
  have h:=((((Turns.refl (Sat.nil w)).alloc (.cells #[.int .u32 e,.int .u32 wh] 179)).Q8 (.cells eI 121)).Q8 (.cells eI 121));simp only[World.size_alloc]at h;exact h
 have HST:=qqH hst;clear hst;go_enter Tryz.func114,Tryz.ntmps114;go_wp2_with fail;go_loopw [4,12] (fun v i wr=>Hp e wh w v i wr) (fun _ i _=>2-(intOf i).toNat)
 case atStart=>exact⟨0,by omega,rfl,by simpa using fi,HST.out⟩
 case round =>
  obtain⟨k,hk,rfl,hok,hT⟩:=hrel;by_cases hlt:k<2
  ·obtain⟨i0,hi0,hz1,hz2,hz3⟩:=info_parts ix;have hown:=cZ hT.sat.left hok;have hcase:k=0\/k=1:=by omega
   have H:=Hq7 hok hT hown hi0 hz1 hz2 hz3;have hll:((bG e wh).take (4*k)).length<=8:=by simp;omega
   clear hok hT hown hi0 hz1 hz2 hz3 HST hz;rcases hcase with rfl|rfl
   all_goals
    go_wp2_with (refine gB _ rfl (.tmp 15) (.tmp 27) 35 rfl 5 i0 (.int .u8 0) 1 1 Tryz.underlying35 H.d H.e H.f H.u rfl (by decide) _ _ _ rfl (H.c.alloc _) ⟨wr.heap.size,0,none⟩ 4 4 [_,_,_,_] rfl rfl (ic _ _ _) (by simp[Value.oneCell']) (by unfold maxLen;omega) (by omega) ?_;intro v' w3 hown' hgrow _ hgb)
   ·refine⟨r9 (k:=0) he hlt (by simp[bG,cd]) H.b (tz e he).symm hown' hgrow hgb _ rfl,by simp[intOf]⟩
   ·refine⟨r9 (k:=1) hw hlt (by rw[take_of_length_le (by rw[cn];omega)];unfold bG;rw[take_left' (by rw[cd])]) H.b (tz wh hw).symm hown' hgrow hgb _ rfl,by simp[intOf]⟩
  ·obtain rfl:k=2:=by omega
   rw[show(bG e wh).take (4*2)=bG e wh from take_of_length_le (by rw[cn];omega)]at hok hT;have hown:=cZ hT.sat.left hok;obtain⟨av,cv,rfl,_,hcv,hca,_⟩:=qZ hown;rw[cn]at *
   have H:=Hq3 hok hT hca;clear hok hT hown hca HST x0 x1 hz;go_wp2_with fail
   have HFr:Hid (∀W,ak W av ((bG e wh).map al)->Calls Tryz.prog 52 #[.int .u8 77,.slice av 8 cv] W (eJ (frame 77 (bG e wh)) W)):=qqH (fun W hW=>by
    have:=g8 77 av cv (bG e wh) W hW (by rw[cn];omega);rw[cn]at this;exact this)
   have HS8:=qqH (show(Tryz.prog.info? 5).map (·.size)=some 1 by kernel_rfl);refine wp_region_any HM.out ?_;change wpAny _ _ _ _ _ _ _ (World.drew _);refine wpAny_take (i:=0) (v:=?_) rfl (by kernel_rfl) (by kernel_rfl) (by kernel_rfl) (fun _ _ _ h=>h) (Or.inl ⟨by rfl,?_⟩) ?_;rotate_left
   ·intro w;go_simp;try (with_reducible rfl)
   refine wpAny_take (i:=1) (v:=?_) rfl (by kernel_rfl) (by kernel_rfl) (by kernel_rfl) (fun _ _ _ h=>h) (Or.inl ⟨by rfl,?_⟩) ?_;rotate_left
   ·intro w;go_simp;try (with_reducible rfl)
   refine wpAny_ready (rs:=[2]) (by kernel_rfl) (by simp) ?_;refine AllReady.cons rfl (fun K hK=>?_) ?_
   ·go_simp;refine(HFr.out _ (by exact H.y)).mono ?_;rintro ev w2 ⟨v2,rfl,hok2,hT2⟩;obtain⟨a2,c2,rfl,hl2,hc2,hca2,_⟩:=qZ (cZ hT2.sat hok2);have hfl:(frame 77 (bG e wh)).length=17:=by rw[aX,cn]
    have hb3:w2.heap[w.heap.size+1+1]?=some (.cells ((am 128).map al).toArray 121 (0,0)):=hT2.news.at (H.b.drew.sat.right.Q5) id;have hb2:w2.heap[w.heap.size+1]?=some (.cells (aw (am 128)) 121 (0,0)):=hT2.news.at (H.b.drew.sat.right.tail.Q5) id;have hsw:aQ w w2:=(H.b.news.drew).trans hT2.news;rw[hfl];have HX:=Hq5 hb3 hb2 hsw hca2 hfl;clear hb3 hb2 hsw hca2 hfl hok2 hT2 hl2;refine hK _ _ ?_;clear hK K;refine wpAny_ready (rs:=[3]) (by kernel_rfl) (by simp) ?_;refine AllReady.cons rfl (fun K hK=>?_) ?_
    ·simp only[getElem_toArray,getElem_cons_succ,getElem_cons_zero];rw[if_pos (by rfl)];refine Ef (.tmp 30) (.tmp 32) 35 35 rfl 5 Tryz.underlying35 HS8.out _ _ _ _ _ _ rfl rfl (w.heap.size+1+1) 0 ((am 128).map al) 121 HX.a ((frame 77 (bG e wh)).map al) (by rw[length_map,HX.w];rfl) (fun hp=>⟨rfl,by obtain⟨g,off,hg,hcc⟩:=HX.d (by simpa using hp);exact⟨⟨g,off,none⟩,hg,fun j v hv=>by obtain⟨hj,rfl⟩:=List.getElem?_eq_some_iff.1 hv;rw[Addr.add_mid];exact hcc j hj⟩⟩) (by rw[length_map,length_map,HX.w,an];omega) (dW _) ?_;intro w3 hh hm;have hc3:w3.heap[w.heap.size+1+1]?=some (.cells (aw (cH e wh)) 121 (0,0)):=by rw[hh,vZ HX.w]
     have hb2:w3.heap[w.heap.size+1]?=some (.cells (aw (am 128)) 121 (0,0)):=hm.at HX.b (by omega);have hsw:aQ w w3:=HX.c.trans' hm (fun i hi=>.inr (by omega));have HY:=Hq3 hc3 hb2 hsw;clear hc3 hb2 hsw hh hm;simp only[Act.put,QA,QB,QC];refine hK _ _ ?_;clear hK K;refine wpAny_done (by kernel_rfl) ?_ _;go_wp2_with (first|(refine wpList_load_mid rfl 121 (.tmp 3) rfl (w.heap.size+1+1) 0 rfl ((cH e wh).map al) _ (by have:=ex HY.a 0 128;rwa [drop_zero,take_of_length_le (by rw[co];omega)]at this) Tryz.underlying121 rfl (iC (co e wh)) ?_)|(refine wpList_store_mid rfl 121 (.tmp 2) (.tmp 34) rfl (w.heap.size+1) 0 ((cH e wh).map al).toArray rfl rfl ?c5 (iD (co e wh)) (c9 _) ?_))
     case c5=>rw[show((cH e wh).map al).toArray.size=128 by simp[co]];exact fL HY.b 0 128 (by rw[an];omega)
     obtain⟨q1,q2⟩:=dJ HY.b (s:=cH e wh) (by rw[co,an]);refine bodyPost_ret (results_cell_row rfl _ _ (w.heap.size+1) 121 (aw (cH e wh)) (0,0) _ rfl q1 Tryz.underlying121 rfl (iD (co e wh))) rfl ⟨rfl,?_⟩;exact HY.y.trans' q2 (fun i hi=>.inr (by omega))
    exact AllReady.nil
   exact AllReady.nil
def ay(n:Nat):Nat:=(n-2) / 2
theorem pj(d:Nat)(L:DevL)(ep:Nat)(w:World)(h:Sat w (aD d L))(hn:2<=L.n)(hn2:L.n<=1073741824)(hep:ep<4294967296):
  Calls Tryz.prog 76 #[.pointer (some ⟨d,0,none⟩),.int .u32 ep] w (mG d (2+ep%2*ay L.n) (ay L.n) w):=by
 have HS:=qqH (kV d L w h);obtain⟨m,hm⟩:∃m,m=ay L.n:=⟨_,rfl⟩;have e1:((L.n:Int)-2) / 2=(m:Int):=by rw[hm];unfold ay;omega
 have hml:m<=1073741824:=by rw[hm];unfold ay;omega
 obtain⟨b,hb⟩:∃b,b=ep%2:=⟨_,rfl⟩;have e2:((ep:Int))%2=(b:Int):=by omega
 have hb2:b=0\/b=1:=by omega
 have e3:wrap64 (2+wrap64 ((b:Int)*(m:Int)))=((2+b*m:Nat):Int):=by
  have hbm:(b:Int)*(m:Int)=((b*m:Nat):Int):=by simp
  have hle:b*m<=1*m:=Nat.mul_le_mul_right _ (by omega);have i1:wrap64 ((b*m:Nat):Int)=((b*m:Nat):Int):=IntWalk.wrap64_in _ ⟨by omega,by omega⟩;rw[hbm,i1,IntWalk.wrap64_in _ ⟨by omega,by omega⟩];omega
 rw[<- hm,<- hb];have HM:=Hq2 hm hb;clear h hm hb;go_enter Tryz.func76,Tryz.ntmps76;go_wp2_with fail;refine HS.out.mono ?_;rintro e w1 ⟨rfl,rfl⟩;have E3:=qqH e3;clear e3;go_wp2_with fail;rw[E3.out];refine(vw d (2+b*m) m w).mono ?_;rintro e w1 ⟨ab,ch,rfl,hT⟩;have HT:=qqH hT;clear hT;go_wp2_with fail;go_ret;exact⟨ab,ch,rfl,HT.out⟩
def dS(pm tm cm:Nat)(sc sb used:Int):Array Value:=#[.map (some pm),.map (some tm),.map (some cm),.int .i64 sc,.int .i64 sb,.int .i64 used]
def sU(w:World)(e:Ending)(w':World):Prop :=
 ∃pm tm cm:Nat,e=.returned (.agg (dS pm tm cm 0 0 0))/\Turns [] [(cm,Is (.map #[] 0)),(tm,Is (.map #[] 0)),(pm,Is (.map #[] 0))] w w'
theorem i4(w:World):Calls Tryz.prog 71 #[] w (sU w):=by
 have hmm:=@run_makeMap Tryz.prog;go_enter Tryz.func71,Tryz.ntmps71;go_wp2_with fail;have h:=((((Turns.refl (Sat.nil w)).alloc (.cells (dS (w.heap.size+1) (w.heap.size+1+1) (w.heap.size+1+1+1) 0 0 0) 55)).Q8 (.map #[] 0)).Q8 (.map #[] 0)).Q8 (.map #[] 0);simp only[World.size_alloc]at h
 have hc:((((w.alloc (.cells (dS (w.heap.size+1) (w.heap.size+1+1) (w.heap.size+1+1+1) 0 0 0) 55)).alloc (.map #[] 0)).alloc (.map #[] 0)).alloc (.map #[] 0)).heap[w.heap.size]?=some (.cells (dS (w.heap.size+1) (w.heap.size+1+1) (w.heap.size+1+1+1) 0 0 0) 55 (0,0)):=by
  rw[dR (by simp;omega),dR (by simp;omega),dR (by simp)];exact aK w _
 exact bodyPost_ret (results_cell_row rfl _ _ w.heap.size 55 _ (0,0) _ rfl hc Tryz.underlying55 rfl (by kernel_rfl)) rfl ⟨_,_,_,rfl,h⟩
theorem rU:ce (am 128)=none:=by
 unfold ce;rw[if_neg (by rw[an];omega),if_pos (by simp[am])]
def Hz(z:Bool)(w:World)(e:Ending)(w':World):Prop:=e=.returned (.tuple #[.slice none 0 0,.bool z,.nilIface])/\aQ w w'
def cD(l:Bs)(k:Nat):Bool:=decide (∀j,j<k->aM l j=am 128)
theorem qD(l:Bs):cD l 0=true:=by simp[cD]
theorem sk{l:Bs}{k:Nat}(h:aM l k=am 128):cD l (k+1)=cD l k:=by
 unfold cD;refine decide_eq_decide.2 ⟨fun H j hj=>H j (by omega),fun H j hj=>?_⟩;rcases Nat.lt_or_ge j k with h'|h'
 ·exact H j h'
 ·obtain rfl:j=k:=by omega
  exact h
theorem vo{l:Bs}{k:Nat}(h:aM l k≠am 128):cD l (k+1)=false:=by
 unfold cD;exact decide_eq_false (fun H=>h (H k (by omega)))
theorem GO(d:Nat)(L:DevL)(w:World)(h:Sat w (aD d L))(hL:DevOk L)(hn:16<=L.n)(h01:∀k,k<2->ce (aM L.now k)=none):
  Calls Tryz.prog 80 #[.pointer (some ⟨d,0,none⟩)] w (Hz (cD L.now 2) w):=by
 have HZ:=qqH nX;have HC:Hid (∀(k:Nat) (W:World),k<2->aQ w W->Calls Tryz.prog 115 #[.pointer (some ⟨d,0,none⟩),.int .i64 k] W (jZ L k W)):=qqH (fun k W hk hW=>lI d L k W (h.same hW) hL (by omega));have HL:Hid (∀k,k<2->(aM L.now k).length=128):=qqH (fun k hk=>iE hL.nowL (by omega));have HO:=qqH h01;clear h hL h01;go_enter Tryz.func80,Tryz.ntmps80;go_wp2_with fail;go_loopw [2,3,16] (fun l em i wr=>∃k:Nat,k<=2/\i=.int .i64 k/\l=.slice none 0 0/\em=.bool (cD L.now k)/\aQ w wr) (fun _ _ i _=>2-(intOf i).toNat)
 case atStart=>exact⟨0,by omega,rfl,rfl,by rw[qD],Mods.refl _ _⟩
 case round =>
  obtain⟨k,hk,rfl,rfl,rfl,hs⟩:=hrel;by_cases hlt:k<2
  ·have HR:=qqH (HC.out k wr hlt hs);have HS:=qqH hs;have HO':=qqH (HO.out k hlt);have HL':=qqH (HL.out k hlt);have HZ0:=qqH (sk (l:=L.now) (k:=k));have HZ1:=qqH (vo (l:=L.now) (k:=k));unfold jZ at HR;obtain⟨s,hse⟩:∃s,s=aM L.now k:=⟨_,rfl⟩;obtain⟨z,hz⟩:∃z,z=cD L.now k:=⟨_,rfl⟩;obtain⟨z1,hz1⟩:∃z,z=cD L.now (k+1):=⟨_,rfl⟩;rw[<- hse]at HR HO' HL' HZ0 HZ1;rw[<- hz,<- hz1]at HZ0;rw[<- hz1]at HZ1;rw[<- hz];have H1:=qqH hz1;clear hs HC HO HL hse hz hz1;go_wp2_with fail;refine HR.out.mono ?_;rintro e w2 ⟨rfl,hs2⟩;have hb:=aK w2 (.cells (aw (am 128)) 121);obtain⟨q1,q2⟩:=dJ hb (s:=s) (by rw[HL'.out,an]);have hs3:aQ w ((w2.alloc (.cells (aw (am 128)) 121)).setCells w2.heap.size 0 (s.map al)):=(((HS.out.trans' hs2 (fun _ h=>h.elim)).alloc _).trans' q2 (fun i hi=>.inr (by have:=(HS.out.trans' hs2 (fun _ h=>h.elim)).size;omega)));have hth:(w2.alloc (.cells (aw (am 128)) 121)).there w2.heap.size 0 (aw s).size:=by rw[bN,HL'.out];exact fL hb 0 128 (by rw[an];omega)
   have hrg:((w2.alloc (.cells (aw (am 128)) 121)).setCells w2.heap.size 0 (s.map al)).rangeAt w2.heap.size 0 (s.map al):=by
    have:=ex q1 0 128;rwa [drop_zero,take_of_length_le (by rw[HL'.out];omega)]at this
   have HN:=qqH (fun W=>EK s (am 128) HL'.out (an _) W);obtain⟨W4,hW4⟩:∃W,(w2.alloc (.cells (aw (am 128)) 121)).setCells w2.heap.size 0 (s.map al)=W:=⟨_,rfl⟩;rw[hW4]at q1 hs3 hrg;have H3:=Hq3 q1 hs3 hrg;have HT:=qqH hth;have HW:=qqH hW4;clear q1 q2 hb hs3 hs2 hth hrg hW4;have hz:=nY;go_wp2_with (first|(refine wpList_store_mid rfl 121 (.tmp 6) (.tmp 23) rfl w2.heap.size 0 (aw s) rfl rfl HT.out (iD HL'.out) (c9 _) ?_;change wpList _ _ _ _ _ (World.setCells (w2.alloc (.cells (aw (am 128)) 121)) w2.heap.size 0 (s.map al));rw[HW.out])|(refine wpList_load_mid rfl 121 (.tmp 6) rfl w2.heap.size 0 rfl (s.map al) _ H3.y Tryz.underlying121 rfl (iC HL'.out) ?_)|(refine bV rfl 121 #[] rfl (aw (am 128)) HZ.out ?_)|(refine px rfl .neq 121 (.tmp 28) (.tmp 29) _ rfl qf _ _ (.bool (!decide (s=am 128))) (HN.out _) rfl rfl ?_))
   all_goals
    have hb:=H3.a
    have hop:Calls Tryz.prog 110 #[.slice (some ⟨w2.heap.size,0,none⟩) 128 128] W4 (er (some ⟨w2.heap.size,0,none⟩) s W4):=by
     have:=ji (some ⟨w2.heap.size,0,none⟩) 128 s W4 (fun hp=>⟨w2.heap.size,0,rfl,fun j hj=>by rw[Nat.zero_add];exact aa hb j (by rw[gi s j (by simpa using hj)];simp)⟩) (by rw[HL'.out];omega) (by rw[HL'.out];omega);rwa [HL'.out]at this
    unfold er at hop;rw[HO'.out]at hop;have HP:=qqH hop;clear hb hop;first
    | (
     have hne:s≠am 128:=by
      have:(!decide (s=am 128))=true:=by assumption
      simpa using this
     have HE:=qqH (HZ1.out hne))
    | (
     have hne:s=am 128:=by
      have:(!decide (s=am 128))=false:=by assumption
      simpa using this
     have HE:=qqH (HZ0.out hne))
    clear hne;refine HP.out.mono ?_;rintro e w5 ⟨rfl,hs5⟩;have H5:=qqH (H3.b.trans hs5);clear hs5;go_wp2_with fail;go_roundw
    case rel=>exact⟨k+1,by omega,by go_num,rfl,by rw[<- H1.out,HE.out],H5.out⟩
    case measure=>simp[intOf];omega
  ·obtain rfl:k=2:=by omega
   have HS:=qqH hs;clear hs HC HO HL;go_wp2_with fail;go_quiet (fail);go_wp2_with fail;go_ret3;exact⟨rfl,HS.out.drewN _⟩
end
end Go.Proofs.YtdhobpbngkainabGreatDoor
