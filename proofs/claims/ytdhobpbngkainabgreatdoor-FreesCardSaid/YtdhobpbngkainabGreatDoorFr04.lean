/- Ours. A part of the proof, made small by a program. -/
import Derived.Test.YtdhobpbngkainabGreatDoorFr03
set_option maxRecDepth 100000
set_option maxHeartbeats 4000000
namespace Go.Proofs.YtdhobpbngkainabGreatDoor
open List
section
open Go.Shelf
def GB:Go.Shelf.Ren:=⟨fun|6=>86|15=>120|14=>119|28=>146|29=>147|20=>138|21=>139|22=>140|23=>141|24=>142|25=>143|26=>144|27=>145|46=>161|47=>162|48=>163|49=>164|50=>165|57=>170|n=>n,fun|22=>102|24=>185|25=>188|3=>3|39=>239|0=>0|53=>57|55=>285|4=>4|46=>278|45=>277|50=>272|5=>5|9=>9|66=>294|70=>298|76=>302|77=>65|n=>n,fun|n=>n⟩
theorem K8:Go.Proofs.SlLaysF0.n6 Tryz.prog GB:={
 mixed:=by kernel_rfl,
 f6:=⟨Tryz.f86.name,by decide,Tryz.func86.trans (congrArg some (by kernel_rfl))⟩,
 f14:=⟨Tryz.f119.name,by decide,Tryz.func119.trans (congrArg some (by kernel_rfl))⟩,
 f15:=Tryz.func120.trans (congrArg some (by kernel_rfl)),
 f20:=⟨Tryz.f138.name,by decide,Tryz.func138.trans (congrArg some (by kernel_rfl))⟩,
 f21:=⟨Tryz.f139.name,by decide,Tryz.func139.trans (congrArg some (by kernel_rfl))⟩,
 f22:=⟨Tryz.f140.name,by decide,Tryz.func140.trans (congrArg some (by kernel_rfl))⟩,
 f23:=⟨Tryz.f141.name,by decide,Tryz.func141.trans (congrArg some (by kernel_rfl))⟩,
 f24:=⟨Tryz.f142.name,by decide,Tryz.func142.trans (congrArg some (by kernel_rfl))⟩,
 f25:=⟨Tryz.f143.name,by decide,Tryz.func143.trans (congrArg some (by kernel_rfl))⟩,
 f26:=⟨Tryz.f144.name,by decide,Tryz.func144.trans (congrArg some (by kernel_rfl))⟩,
 f27:=⟨Tryz.f145.name,by decide,Tryz.func145.trans (congrArg some (by kernel_rfl))⟩,
 f28:=Tryz.func146.trans (congrArg some (by kernel_rfl)),
 f29:=Tryz.func147.trans (congrArg some (by kernel_rfl)),
 f46:=⟨Tryz.f161.name,by decide,Tryz.func161.trans (congrArg some (by kernel_rfl))⟩,
 f47:=Tryz.func162.trans (congrArg some (by kernel_rfl)),
 f48:=Tryz.func163.trans (congrArg some (by kernel_rfl)),
 f49:=⟨Tryz.f164.name,by decide,Tryz.func164.trans (congrArg some (by kernel_rfl))⟩,
 f50:=⟨Tryz.f165.name,by decide,Tryz.func165.trans (congrArg some (by kernel_rfl))⟩,
 f57:=⟨Tryz.f170.name,by decide,Tryz.func170.trans (congrArg some (by kernel_rfl))⟩,
 t0:=Tryz.underlying0,
 a0:=Tryz.isAgg0,
 z0:=Tryz.sizeOf0,
 v0:=Tryz.zeroValue0,
 t3:=Tryz.underlying3,
 a3:=Tryz.isAgg3,
 z3:=Tryz.sizeOf3,
 v3:=Tryz.zeroValue3,
 t4:=Tryz.underlying4,
 a4:=Tryz.isAgg4,
 z4:=Tryz.sizeOf4,
 v4:=Tryz.zeroValue4,
 t5:=Tryz.underlying5,
 a5:=Tryz.isAgg5,
 z5:=Tryz.sizeOf5,
 v5:=Tryz.zeroValue5,
 t9:=Tryz.underlying9,
 a9:=Tryz.isAgg9,
 z9:=Tryz.sizeOf9,
 v9:=Tryz.zeroValue9,
 t22:=Tryz.underlying102,
 a22:=Tryz.isAgg102,
 z22:=Tryz.sizeOf102,
 v22:=Tryz.zeroValue102,
 t25:=Tryz.underlying188,
 a25:=Tryz.isAgg188,
 z25:=Tryz.sizeOf188,
 v25:=Tryz.zeroValue188,
 t39:=Tryz.underlying239,
 a39:=Tryz.isAgg239,
 z39:=Tryz.sizeOf239,
 v39:=Tryz.zeroValue239,
 t45:=Tryz.underlying277,
 a45:=Tryz.isAgg277,
 z45:=Tryz.sizeOf277,
 v45:=Tryz.zeroValue277,
 t46:=Tryz.underlying278,
 a46:=Tryz.isAgg278,
 z46:=Tryz.sizeOf278,
 v46:=Tryz.zeroValue278,
 t50:=Tryz.underlying272,
 a50:=Tryz.isAgg272,
 z50:=Tryz.sizeOf272,
 v50:=Tryz.zeroValue272,
 t53:=Tryz.underlying57,
 a53:=Tryz.isAgg57,
 z53:=Tryz.sizeOf57,
 v53:=Tryz.zeroValue57,
 t55:=Tryz.underlying285,
 a55:=Tryz.isAgg285,
 z55:=Tryz.sizeOf285,
 v55:=Tryz.zeroValue285,
 t66:=Tryz.underlying294,
 a66:=Tryz.isAgg294,
 z66:=Tryz.sizeOf294,
 v66:=Tryz.zeroValue294,
 t70:=Tryz.underlying298,
 a70:=Tryz.isAgg298,
 z70:=Tryz.sizeOf298,
 v70:=Tryz.zeroValue298,
 t76:=Tryz.underlying302,
 a76:=Tryz.isAgg302,
 z76:=Tryz.sizeOf302,
 v76:=Tryz.zeroValue302,
 t77:=Tryz.underlying65,
 a77:=Tryz.isAgg65,
 z77:=Tryz.sizeOf65,
 v77:=Tryz.zeroValue65 }
end
section
open Go.RowKit Go.Sort
theorem qT(s p:ByteArray)(w:World):Calls Tryz.prog 118 #[.string s,.string p] w fun e w'=>e=.returned (.bool (Lib.hasPrefix s.data.toList p.data.toList))/\w'=w:=by
 rw[<- Lib.hasPrefix_of_take,<- Lib.size_eq,<- Lib.size_eq];go_enter Tryz.func118,Tryz.ntmps118;go_wp2
 ·rename_i h;go_ret;refine⟨?_,rfl⟩;show Ending.returned (Value.bool ((s.extract 0 p.size).toList==p.toList))=_;rw[Lib.extract_toList,Lib.toList_data];simp[h]
 ·rename_i h;go_ret;refine⟨?_,rfl⟩;show Ending.returned (Value.bool false)=_;simp[h]
theorem sn(l p:Bs)(w:World):Calls Tryz.prog 85 #[str l,str p] w fun e w'=>e=.returned (.bool (p.isPrefixOf l))/\w'=w:=by
 have h:=qT ⟨l.toArray⟩ ⟨p.toArray⟩ w;unfold Lib.hasPrefix at h;simp only at h;have HP:=qqH h;clear h;unfold str;go_enter Tryz.func85,Tryz.ntmps85;go_wp2_with fail;refine HP.out.mono ?_;rintro e w' ⟨rfl,rfl⟩;go_wp2_with fail;go_ret;exact⟨rfl,rfl⟩
theorem nZ(a b:Bs)(w:World):Calls Tryz.prog 121 #[str a,str b] w fun e w'=>e=.returned (.int .i64 (Lib.compareBytes a b))/\w'=w:=by
 unfold str;go_enter Tryz.func121,Tryz.ntmps121;go_wp2;rw[run_callFunc_extern Tryz.func148 (by kernel_rfl) (by kernel_rfl) (by kernel_rfl) (e:=Extern.BytealgCompare.compare) (by kernel_rfl),Lib.run_compareString];simp only[Result.andThen];rw[Oper.upon_value];go_wp2;go_ret;exact⟨rfl,rfl⟩
theorem vt(a b:Bs)(w:World):Calls Tryz.prog 88 #[str a,str b] w fun e w'=>e=.returned (.int .i64 (Lib.compareBytes a b))/\w'=w:=by
 have HP:=qqH (nZ a b w);go_enter Tryz.func88,Tryz.ntmps88;go_wp2_with fail;refine HP.out.mono ?_;rintro e w' ⟨rfl,rfl⟩;go_wp2_with fail;go_ret;exact⟨rfl,rfl⟩
def bH:Bs->Bs->Bool
 | [],[]=>false
 | [],_::_=>true
 | _::_,[]=>false
 | a::ax,b::bs=>if a<b then true else if b<a then false else bH ax bs
theorem Ip:∀a b:Bs,(Lib.compareBytes a b<0)↔bH a b=true
 | [],[]=>by simp[Lib.compareBytes,bH]
 | [],_::_=>by simp[Lib.compareBytes,bH]
 | _::_,[]=>by simp[Lib.compareBytes,bH]
 | a::ax,b::bs=>by
  simp only[Lib.compareBytes,bH]
  split
  ·simp
  ·split
   ·simp
   ·exact Ip ax bs
theorem bR:∀a:Bs,bH a a=false
 | []=>rfl
 | a::ax=>by simp only[bH,bR ax];simp
theorem gV:∀{a b c:Bs},bH a b=true->bH b c=true->bH a c=true
 | [],[],_,h,_=>by simp[bH]at h
 | [],_::_,[],_,h=>by simp[bH]at h
 | [],_::_,_::_,_,_=>rfl
 | _::_,[],_,h,_=>by simp[bH]at h
 | _::_,_::_,[],_,h=>by simp[bH]at h
 | a::ax,b::bs,c::cs,h1,h2=>by
  simp only[bH]at h1 h2 ⊢
  by_cases hab:a<b
  ·by_cases hbc:b<c
   ·rw[if_pos (UInt8.lt_trans hab hbc)]
   ·rw[if_neg hbc]at h2
    by_cases hcb:c<b
    ·rw[if_pos hcb]at h2;cases h2
    ·have:b=c:=UInt8.le_antisymm (UInt8.not_lt.1 hcb) (UInt8.not_lt.1 hbc)
     subst this
     rw[if_pos hab]
  ·rw[if_neg hab]at h1
   by_cases hba:b<a
   ·rw[if_pos hba]at h1;cases h1
   ·rw[if_neg hba]at h1
    have:a=b:=UInt8.le_antisymm (UInt8.not_lt.1 hba) (UInt8.not_lt.1 hab)
    subst this
    by_cases hac:a<c
    ·rw[if_pos hac]
    ·rw[if_neg hac]at h2 ⊢
     by_cases hca:c<a
     ·rw[if_pos hca]at h2;cases h2
     ·rw[if_neg hca]at h2 ⊢
      exact gV h1 h2
theorem j8:∀a b:Bs,bH a b=false->bH b a=false->a=b
 | [],[],_,_=>rfl
 | [],_::_,h,_=>by simp[bH]at h
 | _::_,[],_,h=>by simp[bH]at h
 | a::ax,b::bs,h1,h2=>by
  simp only[bH]at h1 h2
  by_cases hab:a<b
  ·rw[if_pos hab]at h1;cases h1
  ·rw[if_neg hab]at h1 h2
   by_cases hba:b<a
   ·rw[if_pos hba]at h2;cases h2
   ·rw[if_neg hba]at h1 h2
    have:a=b:=UInt8.le_antisymm (UInt8.not_lt.1 hba) (UInt8.not_lt.1 hab)
    subst this
    rw[j8 ax bs h1 h2]
structure EntL where
 p:Bs
 latest:Int
 size:Int
 n:Int
 deriving Inhabited
def cg(x:EntL):List Value:=[str x.p,.int .i64 x.latest,.int .i64 x.size,.int .i64 x.n]
def o9(x y:EntL):Int:=Lib.compareBytes x.p y.p
theorem Ex(x y:EntL):ltOf o9 x y=bH x.p y.p:=by
 unfold ltOf o9;rw[Bool.eq_iff_iff,decide_eq_true_eq];exact Ip _ _
theorem Lw:SWO (ltOf o9) where
 irrefl x:=by rw[Ex];exact bR _
 trans x y z h1 h2:=by rw[Ex]at *;exact gV h1 h2
 ntrans x y z h1 h2:=by
  rw[Ex]at *
  cases h:bH x.p z.p with
  | false=>rfl
  | true =>
   cases h3:bH y.p x.p with
   | true=>rw[gV h3 h]at h2;cases h2
   | false=>rw[<- j8 _ _ h1 h3,h]at h2;cases h2
theorem vF(x y:EntL)(W:World):Calls Tryz.prog 87 #[.agg (cg x).toArray,.agg (cg y).toArray] W fun e w'=>e=.returned (.int .i64 (o9 x y))/\∃q os',w'=grow (W.drewN q) os':=by
 have hcon:=fun W'=>vt x.p y.p W'
 unfold o9;generalize Lib.compareBytes x.p y.p=r at hcon ⊢;unfold cg;go_enter Tryz.func87,Tryz.ntmps87;go_wp2_with (go_at_call 88;refine(hcon _).mono ?_;rintro e w' ⟨rfl,rfl⟩);go_ret;exact⟨rfl,0,_,by rw[alloc_eq_grow,alloc_eq_grow,grow_grow];rfl⟩
theorem Kb(blk off size:Nat)(w:World):CmpLays Tryz.prog 87 #[] cg 4 o9 blk off size w:=fun _ _ _ _ x y=>vF x y _
end
section
open Go.RowKit Go.Maps
def gd(l:List RVer)(p:Bs):List Int:=(l.filter (fun v=>decide (v.path=p))).map (·.num)
def fh(R:RefL)(p:Bs)(w:World)(e:Ending)(w':World):Prop :=
 match cL R p 0 with
 | .error k=>aQ w w'/\e=.returned (.tuple #[.slice none 0 0,.int .i64 k])
 | .ok _=>∃v,e=.returned (.tuple #[v,.int .i64 0])/\iOk v (gd R.vs p)/\Turns [] (bZ v (gd R.vs p)) w w'
theorem jT{R:RefL}{p:Bs}{n k:Int}(hr:cL R p n=.error k):¬k=0:=by
 unfold cL at hr;split at hr
 ·simp at hr;omega
 ·split at hr
  ·split at hr<;>simp at hr;omega
  ·simp at hr;omega
theorem Dv{vs:List RVer}{p:Bs}{k:Nat}(h:k<vs.length):gd (vs.take (k+1)) p=gd (vs.take k) p++(if vs[k].path=p then[vs[k].num]else[]):=by
 unfold gd;rw[QH h,filter_append,map_append];congr 1;by_cases hp:vs[k].path=p<;>simp[hp]
theorem qW(l:List RVer)(p:Bs):(gd l p).length<=l.length:=by
 unfold gd;rw[length_map];exact length_filter_le _ _
theorem mZ(R:RefL)(P:eO)(p:Bs)(w:World)(h:RefAt R P w):Calls Tryz.prog 42 #[.pointer (some ⟨R.blk,0,none⟩),str p] w (fh R p w):=by
 have HG:=qqH (ko R P p 0 w h);have hlen:=h.len;have HH:=qqH h;clear h;go_enter Tryz.func42,Tryz.ntmps42;go_wp2_with fail;refine HG.out.mono ?_;intro e w1 hp;unfold jn at hp;obtain⟨hs,hp⟩:=hp
 cases hr:cL R p 0 with
 | error k =>
  rw[hr]at hp;subst hp;have hk:=jT hr;have HR:=Hq2 hr hs;clear hr hs;go_wp2_with fail;go_ret2;refine (by unfold fh;rw[HR.a];exact⟨HR.z,rfl⟩)
 | ok v =>
  rw[hr]at hp;obtain⟨rfl,hv⟩:=hp;have hbl:=ae (HH.out.same hs).ref.Q5;obtain⟨csl,ccap,hcv,-,-,-⟩:=(HH.out.same hs).cont hv;have HR:=Hq2 hr hs;clear hr hs hv;rw[hcv];go_wp2_with fail;go_loopw [8,9] (fun l i wr=>∃(k:Nat) (J:HF),k<=R.vs.length/\i=.int .i64 k/\iOk l (gd (R.vs.take k) p)/\Turns [] (bZ l (gd (R.vs.take k) p)++J) w wr) (fun _ i _=>R.vs.length-(intOf i).toNat)
  case atStart=>exact⟨0,[],Nat.zero_le _,rfl,lV,(show Turns [] [] w w1 from Turns.same (Sat.nil w) HR.z)⟩
  case round =>
   obtain⟨k,J,hk,rfl,hio,hT⟩:=hrel;have hA:=HH.out.same hT.news;obtain⟨sl,cap,e1,e2,e3,hb,hcell⟩:=hA.row;have c0:wr.cell? ⟨R.blk,0,none⟩=some (.slice sl R.vs.length cap):=by rw[<- e1];exact aa hb 0 rfl
   have hbl':=ae hb;have HS:=Hq2 hio hT;clear hio hT e1 hb hA;by_cases hlt:k<R.vs.length
   ·obtain⟨g,off,hg,hcc⟩:=hcell (by omega);subst hg;obtain⟨h0,h1,-,-⟩:=hcc k hlt;have hnx:=Dv (p:=p) hlt;obtain⟨pk,hpk⟩:∃pk,pk=R.vs[k].path:=⟨_,rfl⟩;obtain⟨nk,hnk⟩:∃nk,nk=R.vs[k].num:=⟨_,rfl⟩;rw[<- hpk]at h0 hnx;rw[<- hnk]at h1 hnx;have hnl:=qW (R.vs.take k) p;rw[length_take]at hnl;obtain⟨ns,hns⟩:∃ns,ns=gd (R.vs.take k) p:=⟨_,rfl⟩;rw[<- hns]at hnx hnl HS;have hnl2:ns.length<=100000:=by omega
    have HX:=qqH hnx;clear hcc hcell hnx hpk hnk hns hnl;by_cases hpp:pk=p
    ·have hp':=hpp.symm;clear hpp;subst hp';have hfin:gd (R.vs.take (k+1)) p=ns++[nk]:=by rw[HX.out,if_pos rfl]
     have HF:=qqH hfin;clear hfin;go_wp2_with ((at_builtin;refine ah rfl ?_;refine kq (.tmp 38) (.tmp 47) rfl _ ns rfl (HS.z.alloc _) HS.a _ 1 1 rfl [nk] rfl (fun _=>⟨_,rfl,fun j u hu=>ic _ _ _ j u hu⟩) (by simp;omega) ?_;intro av cv w5 hok5 hT5;have H5:=Hq2 hok5 hT5;clear hok5 hT5));go_roundw
     case rel =>
      refine⟨k+1,J,by omega,by go_num,?_,?_⟩
      ·rw[HF.out];have:=H5.a;rw[length_append]at this;exact this
      ·rw[HF.out];have:=H5.z;rw[length_append]at this;exact this
     case measure=>simp[intOf];omega
    ·have hpq:(pk==p)=false:=by simp[hpp]
     have hfin:gd (R.vs.take (k+1)) p=ns:=by rw[HX.out,if_neg hpp];simp
     have HF:=qqH hfin;clear hfin;go_wp2_with fail;go_roundw
     case rel=>exact⟨k+1,J,by omega,by go_num,by rw[HF.out];exact HS.a,by rw[HF.out];exact HS.z⟩
     case measure=>simp[intOf];omega
   ·obtain rfl:k=R.vs.length:=by omega
    rw[take_length]at HS;clear hcell;go_wp2_with fail;go_ret2;refine (by unfold fh;rw[HR.a];exact⟨u8,rfl,HS.a,HS.z.drop (fun x=>by simp only[ai];omega)⟩)
def il(vs:List RVer)(p:Bs):Nat->Nat
 | 0=>0
 | k+1=>if(vs[k]?).elim false (fun v => !bH p v.path)then k+1 else il vs p k
def i5(vs:List RVer)(p:Bs):Nat->Int
 | 0=>1
 | k+1=>if(vs[k]?).elim false (fun v=>decide (v.path=p))then((vs[k]?).elim 0 (·.num))+1 else i5 vs p k
theorem wB{vs:List RVer}{p:Bs}{k:Nat}(h:k<vs.length):il vs p (k+1)=if bH p vs[k].path then il vs p k else k+1:=by
 rw[il,getElem?_eq_getElem h];by_cases h2:bH p vs[k].path=true<;>simp[h2]
theorem xf{vs:List RVer}{p:Bs}{k:Nat}(h:k<vs.length):i5 vs p (k+1)=if vs[k].path=p then vs[k].num+1 else i5 vs p k:=by
 rw[i5,getElem?_eq_getElem h];simp only[Option.elim_some,decide_eq_true_eq]
theorem yc(vs:List RVer)(p:Bs):∀k,il vs p k<=k
 | 0=>Nat.le_refl _
 | k+1=>by
  have:=yc vs p k
  unfold il
  split<;>omega
def dd(vs:List RVer)(p:Bs)(x:RVer):List RVer:=vs.take (il vs p vs.length)++[x]++vs.drop (il vs p vs.length)
def pD(R:RefL)(p c:Bs)(w:World)(e:Ending)(w':World):Prop :=
 (∃k:Int,e=.returned (.tuple #[.int .i64 0,.int .i64 k])/\aQ w w'/\((R.closed=true/\k=9)\/(R.closed=false/\aq p=false/\k=1)\/(R.closed=false/\aq p=true/\4000<c.length/\k=2) \/
  (R.closed=false/\aq p=true/\c.length<=4000/\R.quota<fS R.vs+c.length/\k=7))) \/
 (R.closed=false/\aq p=true/\c.length<=4000/\(fS R.vs:Int)+c.length<=R.quota /\
  ∃vv' cv,e=.returned (.tuple #[.int .i64 (i5 R.vs p R.vs.length),.int .i64 0])/\bOk cv c/\RefOk { R with vv:=vv',vs:=dd R.vs p ⟨p,i5 R.vs p R.vs.length,c,cv,0⟩ } /\
   Turns (aI R) (aI { R with vv:=vv',vs:=dd R.vs p ⟨p,i5 R.vs p R.vs.length,c,cv,0⟩ }++aA cv c) w w')
theorem iU:∀a b:Bs,Op.bytesLess a b=bH a b
 | [],[]=>rfl
 | [],_::_=>rfl
 | _::_,[]=>rfl
 | a::ax,b::bs=>by
  simp only[Op.bytesLess,bH,iU ax bs]
  by_cases h1:a<b
  ·simp[h1]
  ·by_cases h2:b<a
   ·have:¬a=b:=fun h=>by subst h;exact h1 h2
    simp[h1,h2,this]
   ·have:a=b:=UInt8.le_antisymm (UInt8.not_lt.1 h2) (UInt8.not_lt.1 h1)
    subst this
    simp
theorem lN{a b:Bs}(h:bH a b=true):bH b a=false:=by
 cases h2:bH b a with
 | false=>rfl
 | true=>have:=gV h h2;rw[bR]at this;cases this
theorem RefAt.one{R:RefL}{P:eO}{w:World}(h:RefAt R P w):∀v∈R.vs,v.cv.oneCell'=true:=fun v hv=>by
 obtain⟨sl,cap,e,-,-,-⟩:=h.cont hv
 rw[e];rfl
theorem xd{w:World}{xs:List Value}{t:TypeId}:ak (w.alloc (.cells xs.toArray t (0,0))) (some ⟨w.heap.size,0,none⟩) xs:=fun _ =>
 ⟨_,0,rfl,fun j hj=>by rw[Nat.zero_add];exact aa (aK _ _) j (by simp[getElem?_eq_getElem hj])⟩
theorem xx{w:World}{v:Value}{l:List RVer}(hs:Sat w (dm v l))(h:nh v l):∃sl cap,v=.slice sl l.length cap/\l.length<=cap/\cap<=9223372036854775807/\(∀k,ak w sl (bu (l.take k)))/\(∀k,k<=l.length->ak w (if cap=k then sl else sl.map (·.add (k*4))) (bu (l.drop k))):=by
 obtain⟨sl,cap,e,h1,h2,h3,-⟩:=bv hs h (by decide);refine⟨sl,cap,e,h1,h2,fun k hp=>?_,fun k hk hp=>?_⟩
 ·rw[bp,length_take]at hp;obtain⟨g,off,he,hc⟩:=h3 (by rw[bp];omega);refine⟨g,off,he,fun j hj=>?_⟩;rw[bp,length_take]at hj;rw[hc j (by rw[bp];omega)];have:bu l=bu (l.take k)++bu (l.drop k):=by rw[<- jl,take_append_drop]
  congr 1;rw[getElem_of_eq this,getElem_append_left]
 ·rw[bp,length_drop]at hp;obtain⟨g,off,he,hc⟩:=h3 (by rw[bp];omega);rw[if_neg (by omega),he];refine⟨g,off+k*4,by simp[Addr.add],fun j hj=>?_⟩;rw[bp,length_drop]at hj;rw[Nat.add_assoc,hc (k*4+j) (by rw[bp];omega)];have:bu l=bu (l.take k)++bu (l.drop k):=by rw[<- jl,take_append_drop]
  congr 1;rw[getElem_of_eq this,getElem_append_right (by rw[bp,length_take];omega)];congr 1;rw[bp,length_take];omega
theorem uw(R:RefL)(P:eO)(p c:Bs)(csl:Option Addr)(ccap:Nat)(w:World)(h:RefAt R P w)(hnum:∀v∈R.vs,0<=v.num/\v.num<=1099511627776)(hc:ak w csl (c.map al))(hcl:c.length<=1000000):
  Calls Tryz.prog 15 #[.pointer (some ⟨R.blk,0,none⟩),str p,.slice csl c.length ccap] w (pD R p c w):=by
 have HI:=qqH (jh p w);have hbl:=ae h.ref.Q5;have hlen:=h.len;have HH:=Hq3 h hnum hc;clear h hnum hc;go_enter Tryz.func15,Tryz.ntmps15;go_wp2_with fail;refine HI.out.mono ?_;rintro e w1 ⟨rfl,hs1⟩;have hA1:=HH.a.same hs1;have hb1:=hA1.ref.Q5;have c3:w1.cell? ⟨R.blk,3,none⟩=some (.bool R.closed):=aa hb1 3 rfl;have hbl1:=ae hb1;have H1:=Hq2 hs1 hA1;clear hs1 hA1 hb1
 cases hc:R.closed with
 | true =>
  rw[hc]at c3;have HC:=qqH hc;clear hc;go_wp2_with fail;exact bodyPost_ret (results_tmp2 rfl _ _ _) rfl (.inl ⟨9,rfl,H1.a,.inl ⟨HC.out,rfl⟩⟩)
 | false =>
  rw[hc]at c3;have HC:=qqH hc;clear hc
  cases hp:aq p with
  | false =>
   have HP:=qqH hp;go_wp2_with fail;exact bodyPost_ret (results_tmp2 rfl _ _ _) rfl (.inl ⟨1,rfl,H1.a,.inr (.inl ⟨HC.out,HP.out,rfl⟩)⟩)
  | true =>
   have HP:=qqH hp;by_cases hsz:4000<c.length
   ·go_wp2_with fail;exact bodyPost_ret (results_tmp2 rfl _ _ _) rfl (.inl ⟨2,rfl,H1.a,.inr (.inr (.inl ⟨HC.out,HP.out,hsz,rfl⟩))⟩)
   ·have HU:=qqH (Br R P w1 H1.z);go_wp2_with fail;refine HU.out.mono ?_;rintro e w2 ⟨rfl,hs2⟩;have hA2:=H1.z.same hs2;have hb2:=hA2.ref.Q5;have c2:w2.cell? ⟨R.blk,2,none⟩=some (.int .i64 R.quota):=aa hb2 2 rfl;have hbl2:=ae hb2;have hul:=Cg hA2.clen;obtain⟨us,hus⟩:∃us,us=fS R.vs:=⟨_,rfl⟩;rw[<- hus]at hul ⊢;have hul2:us<=10000000000:=by omega
    have H2:=Hq3 (H1.a.trans hs2) hA2 hus;clear hs2 hA2 hb2 hus hul;by_cases hq:R.quota<(us:Int)+c.length
    ·go_wp2_with fail;exact bodyPost_ret (results_tmp2 rfl _ _ _) rfl (.inl ⟨7,rfl,H2.a,.inr (.inr (.inr ⟨HC.out,HP.out,by omega,by rw[<- H2.y];exact hq,rfl⟩))⟩)
    ·have HQ:=qqH hq;have hq':¬(us:Int)+c.length>R.quota:=by omega
     go_wp2_with fail;go_loopw [10,11,12] (fun n a i wr=>∃k:Nat,k<=R.vs.length/\i=.int .i64 k/\n=.int .i64 (i5 R.vs p k)/\a=.int .i64 (il R.vs p k)/\aQ w wr) (fun _ _ i _=>R.vs.length-(intOf i).toNat)
     case atStart=>exact⟨0,Nat.zero_le _,rfl,rfl,rfl,H2.a⟩
     case round =>
      obtain⟨k,hk,rfl,rfl,rfl,hs⟩:=hrel;have hA:=HH.a.same hs;obtain⟨sl,cap,e1,e2,e3,hb,hcell⟩:=hA.row;have c0:wr.cell? ⟨R.blk,0,none⟩=some (.slice sl R.vs.length cap):=by rw[<- e1];exact aa hb 0 rfl
      have hbl':=ae hb;have HS:=Hq2 hs hA;clear hs hb;by_cases hlt:k<R.vs.length
      ·clear e1;obtain⟨g,off,hg,hcc⟩:=hcell (by omega);subst hg;obtain⟨h0,h1,h2,h3⟩:=hcc k hlt;have hnx:=wB (p:=p) hlt;have hnn:=xf (p:=p) hlt;have hnr:=HH.b _ (getElem_mem hlt);obtain⟨pk,hpk⟩:∃pk,pk=R.vs[k].path:=⟨_,rfl⟩;obtain⟨nk,hnk⟩:∃nk,nk=R.vs[k].num:=⟨_,rfl⟩;rw[<- hpk]at h0 hnx hnn;rw[<- hnk]at h1 hnn hnr;have hgl:=World.block_lt_of_cell? wr _ h0;have HX:=Hq2 hnx hnn;clear hcc hcell hA hnx hpk hnk hnn h2 h3;by_cases hp:pk=p
       ·have hp':=hp.symm;clear hp;subst hp';have hbs:Op.bytesLess p p=false:=by rw[iU,bR]
        have hf1:il R.vs p (k+1)=k+1:=by rw[HX.a,bR];rfl
        have hf2:i5 R.vs p (k+1)=nk+1:=by rw[HX.z,if_pos rfl]
        have HF:=Hq2 hf1 hf2;clear hf1 hf2;go_wp2_with fail;go_roundw
        case rel=>exact⟨k+1,by omega,by go_num,by rw[HF.z],by rw[HF.a];go_num,by first|exact HS.a|exact HS.a.alloc _⟩
        case measure=>simp[intOf];omega
       ·have hpq:(pk==p)=false:=by simp[hp]
        have hf2:i5 R.vs p (k+1)=i5 R.vs p k:=by rw[HX.z,if_neg hp]
        cases hbl:bH pk p with
        | true =>
         have hbs:Op.bytesLess pk p=true:=by rw[iU,hbl]
         have hf1:il R.vs p (k+1)=k+1:=by rw[HX.a,lN hbl];rfl
         have HF:=Hq2 hf1 hf2;clear hf1 hf2;go_wp2_with fail;go_roundw
         case rel=>exact⟨k+1,by omega,by go_num,by rw[HF.z],by rw[HF.a];go_num,by first|exact HS.a|exact HS.a.alloc _⟩
         case measure=>simp[intOf];omega
        | false =>
         have hbs:Op.bytesLess pk p=false:=by rw[iU,hbl]
         have hf1:il R.vs p (k+1)=il R.vs p k:=by
          rw[HX.a]
          cases h2:bH p pk with
          | true=>rfl
          | false=>exact absurd (j8 _ _ hbl h2) hp
         have HF:=Hq2 hf1 hf2;clear hf1 hf2;go_wp2_with fail;go_roundw
         case rel=>exact⟨k+1,by omega,by go_num,by rw[HF.z],by rw[HF.a],by first|exact HS.a|exact HS.a.alloc _⟩
         case measure=>simp[intOf];omega
      ·obtain rfl:k=R.vs.length:=by omega
       clear hcell;obtain⟨at_,hat⟩:∃at_,at_=il R.vs p R.vs.length:=⟨_,rfl⟩;obtain⟨nr,hnr⟩:∃nr,nr=i5 R.vs p R.vs.length:=⟨_,rfl⟩;have hatl:at_<=R.vs.length:=by rw[hat];exact yc _ _ _
       have hone:=HS.z.one;rw[<- hat,<- hnr];have HN:=Hq4 hat hnr hatl hone;clear hat hnr;have hT0:Turns (aI R) (aA (.slice none 0 0) []++aI R) w wr:=Turns.same HH.a.ref HS.a;have HT0:=qqH hT0;have hcw:ak wr csl (c.map al):=HH.y.keep HS.a (fun _ _ _=>id);have HCW:=qqH hcw;clear hT0 hcw
       have hRF:∀(W:World) (G:HF),Turns (aI R) (G++aI R) w W->W.cell? ⟨R.blk,0,none⟩=some (.slice sl R.vs.length cap)/\R.blk<W.heap.size/\(∀k,ak W sl (bu (R.vs.take k)))/\(∀k,k<=R.vs.length->ak W (if cap=k then sl else sl.map (·.add (k*4))) (bu (R.vs.drop k))):=by
        intro W G hT;have hs:=hT.sat.right;obtain⟨sl',cap',e1',-,-,e4',e5'⟩:=xx (Sat.left (Sat.tail hs)) HS.z.ok.vs;rw[e1]at e1';simp only[Value.slice.injEq,true_and]at e1';obtain⟨rfl,rfl⟩:=e1';exact⟨by rw[<- e1];exact aa hs.Q5 0 rfl,ae hs.Q5,e4',e5'⟩
       have HRF:=qqH hRF;clear hRF e1
       have hno:∀(v:Value) (l:List RVer) (G:HF) (W:World),nh v l->Sat W (dm v l++G)->v.oneCell'=true/\v.cells=#[v]:=fun v l G W hok hs=>by
        obtain⟨h1,h2,-⟩:=dl hs.left hok;exact⟨h1,h2⟩
       have HNO:=qqH hno
       have hfin:∀(av:Option Addr) (cv:Nat) (v9:Value) (W:World),bOk (.slice av c.length cv) c->nh v9 (R.vs.take at_++[⟨p,nr,c,.slice av c.length cv,0⟩]++R.vs.drop at_) ->
         Turns (aI R) ((R.blk,Is (.cells ((bJ R).setIfInBounds 0 v9) 46 (0,0)))::(dm v9 (R.vs.take at_++[⟨p,nr,c,.slice av c.length cv,0⟩]++R.vs.drop at_)++(dm R.vv R.vs++(dP R.tv R.ts++aA (.slice av c.length cv) c)))) w W ->
         pD R p c w (.returned (.tuple #[.int .i64 nr,.int .i64 0])) W:=by
        intro av cv v9 W hb hr hT;refine .inr ⟨HC.out,HP.out,by omega,by rw[<- H2.y];omega,v9,.slice av c.length cv,by rw[<- HN.b],hb,?_,?_⟩
        ·rw[<- HN.b];unfold dd;rw[<- HN.a];exact⟨hr,HS.z.ok.ts⟩
        ·rw[<- HN.b];unfold dd;rw[<- HN.a];refine hT.drop (fun x=>?_);unfold aI;rw[show fQ { R with vv:=v9,vs:=R.vs.take at_++[⟨p,nr,c,.slice av c.length cv,0⟩]++R.vs.drop at_ }=.cells ((bJ R).setIfInBounds 0 v9) 46 (0,0)from rfl];simp only[ao,ai];omega
       have HFIN:=qqH hfin;clear hfin hno;go_upto_region 21 with(fail)
       go_wp2_with (first
        | (at_builtin;refine ah rfl ?_;refine fu (.tmp 77) (.tmp 78) rfl (.slice none 0 0) [] rfl HT0.out fi csl c.length ccap rfl c rfl HCW.out (by simp;omega) ?_;intro av cv w5 hok5 hT5 hn5;simp only[nil_append]at hok5 hT5 ⊢;obtain⟨d0,d1,d2,d3⟩:=HRF.out _ _ hT5;have H5:=Hq4 hok5 hT5 d2 d3;clear hok5 hT5 hn5 d2 d3)
        | (at_builtin;refine ah rfl ?_;refine ig (.tmp 80) (.tmp 86) rfl (.slice none 0 0) [] rfl (G:=aI R++aA (.slice av c.length cv) c) (H5.b.to (by rw[show dm (.slice none 0 0) []=[]from rfl];exact ac)) ⟨rfl,fun _=>⟨rfl,rfl⟩⟩ _ _ _ rfl (R.vs.take at_) (by rw[length_take,Nat.min_eq_left HN.c]) (H5.c at_) (fun v hv=>HN.x v (mem_of_mem_take hv)) (by rw[length_take,Nat.min_eq_left HN.c];simp;omega) ?_;intro v7 w7 hok7 hT7;simp only[nil_append]at hok7 hT7;obtain⟨d0,d1,-,-⟩:=HRF.out _ (dm v7 (R.vs.take at_)++aA (.slice av c.length cv) c) (hT7.to ac);have H7:=Hq2 hok7 hT7;clear hok7 hT7)
        | (at_builtin;refine ah rfl ?_;(refine ig (.tmp 88) (.tmp 93) rfl v7 (R.vs.take at_) rfl (H7.z.alloc _) H7.a _ 1 1 rfl [⟨p,nr,c,.slice av c.length cv,0⟩] rfl (xd (xs:=lC ⟨p,nr,c,.slice av c.length cv,0⟩)) (fun v hv=>by obtain rfl:=mem_singleton.1 hv;rfl) (by rw[length_take,Nat.min_eq_left HN.c];simp;omega) ?_;intro v8 w8 hok8 hT8;obtain⟨d0,d1,-,d3⟩:=HRF.out _ (dm v8 (R.vs.take at_++[⟨p,nr,c,.slice av c.length cv,0⟩])++aA (.slice av c.length cv) c) (hT8.to ac);have H8:=Hq3 hok8 hT8 d3;clear hok8 hT8 d3))
        | (at_builtin;refine ah rfl ?_;(refine ig (.tmp 95) (.tmp 101) rfl v8 (R.vs.take at_++[⟨p,nr,c,.slice av c.length cv,0⟩]) rfl H8.b H8.a _ _ _ rfl (R.vs.drop at_) (by rw[length_drop]) (H8.y at_ HN.c) (fun v hv=>HN.x v (mem_of_mem_drop hv)) (by simp;omega) ?_;intro v9 w9 hok9 hT9;obtain⟨d0,d1,-,-⟩:=HRF.out _ (dm v9 (R.vs.take at_++[⟨p,nr,c,.slice av c.length cv,0⟩]++R.vs.drop at_)++aA (.slice av c.length cv) c) (hT9.to ac);have H9:=Hq2 hok9 hT9;clear hok9 hT9))
        | (refine ah rfl (bb 43 (.tmp 106) (.tmp 104) rfl R.blk 0 (bJ R) 46 v9 (H9.z.to (H:=(R.blk,Is (fQ R))::(dm v9 (R.vs.take at_++[⟨p,nr,c,.slice av c.length cv,0⟩]++R.vs.drop at_)++(dm R.vv R.vs++(dP R.tv R.ts++aA (.slice av c.length cv) c)))) (by unfold aI;exact ac)) rfl rfl (by simp[bJ]) (by kernel_rfl) (HNO.out _ _ _ _ H9.a H9.z.sat).1 (HNO.out _ _ _ _ H9.a H9.z.sat).2 ?_);intro w10 hT10;have H10:=qqH hT10;clear hT10;simp only[Act.put]))
       all_goals (refine bodyPost_ret (results_tmp2 rfl _ _ _) rfl ?_;exact HFIN.out _ _ _ _ H5.a H9.a H10.out)
end
section
def oz(c:Int):Int :=
 bits BinOp.xor IntKind.u32
  (bits BinOp.xor IntKind.u32 ((c+1)*2654435769%4294967296) ((c+1)*2654435769%4294967296 / 65536)*2246822507%4294967296)
  (bits BinOp.xor IntKind.u32 ((c+1)*2654435769%4294967296) ((c+1)*2654435769%4294967296 / 65536)*2246822507%4294967296 / 8192)
def cQ(h c:Int):Int:=(h*2+oz c)%4294967296
def dy(h:Int)(n:Nat):Bool :=
 if 256<=n then true
 else if 64<=n then !(bits BinOp.and IntKind.u32 h 15 != 0)
 else if 16<=n then !(bits BinOp.and IntKind.u32 h 255 != 0)
 else false
theorem pY{h:Int}{n:Nat}(h1:256<=n):dy h n=true:=by unfold dy;rw[if_pos h1]
theorem Ew{h:Int}{n:Nat}{v:Bool}(h1:n<256)(h2:64<=n)(hv:(bits BinOp.and IntKind.u32 h 15 != 0)=v):dy h n = !v:=by
 unfold dy;rw[if_neg (by omega),if_pos h2,hv]
theorem Ev{h:Int}{n:Nat}{v:Bool}(h1:n<64)(h2:16<=n)(hv:(bits BinOp.and IntKind.u32 h 255 != 0)=v):dy h n = !v:=by
 unfold dy;rw[if_neg (by omega),if_neg (by omega),if_pos h2,hv]
theorem Iy{h:Int}{n:Nat}(h1:n<16):dy h n=false:=by unfold dy;rw[if_neg (by omega),if_neg (by omega),if_neg (by omega)]
def tX:Array Value:=((range 256).map fun k:Nat=>Value.int .u32 (oz k)).toArray
def qN(h:Int)(n:Nat):Array Value:=tX++#[.int .u32 h,.int .i64 n]
def jH(k:Nat):Array Value:=((range k).map (fun k:Nat=>Value.int .u32 (oz k))++(replicate (256-k) (Value.int .u32 0)++[Value.int .u32 0,Value.int .i64 0])).toArray
theorem jr:tX.size=256:=by simp[tX]
theorem Lu(h:Int)(n:Nat):(qN h n)[256]?=some (.int .u32 h):=by
 simp[qN,jr]
theorem Lv(h:Int)(n:Nat):(qN h n)[257]?=some (.int .i64 n):=by
 simp[qN,jr]
theorem Lt(h:Int)(n c:Nat)(hc:c<256):(qN h n)[c]?=some (.int .u32 (oz c)):=by
 rw[qN,Array.getElem?_append,if_pos (by rw[jr];exact hc)];simp[tX,hc]
theorem Gz(g:Array Value)(a b a':Value)(k:Nat)(hk:g.size=k):(g++#[a,b]).setIfInBounds k a'=g++#[a',b]:=by
 subst hk;rw[Array.setIfInBounds_append_right (Nat.le_refl _)];simp
theorem DY(g:Array Value)(a b b':Value)(k:Nat)(hk:g.size+1=k):(g++#[a,b]).setIfInBounds k b'=g++#[a,b']:=by
 subst hk;rw[Array.setIfInBounds_append_right (by omega)];simp
theorem CZ(h h':Int)(n:Nat):(qN h n).setIfInBounds 256 (.int .u32 h')=qN h' n:=Gz _ _ _ _ _ jr
theorem C0(h:Int)(n n':Nat)(v:Value)(hv:v=.int .i64 n'):(qN h n).setIfInBounds 257 v=qN h n':=by
 subst hv;exact DY _ _ _ _ _ (by rw[jr])
theorem yy:jH 256=qN 0 0:=by
 simp[jH,qN,tX]
theorem AE(k:Nat)(hk:k<256):(jH k).setIfInBounds k (.int .u32 (oz k))=jH (k+1):=by
 apply Array.ext';simp only[jH,Array.toList_setIfInBounds];rw[set_append,if_neg (by simp)];obtain⟨m,hm⟩:∃m,256-k=m+1:=⟨256-k-1,by omega⟩;have hm':256-(k+1)=m:=by omega
 rw[hm,hm'];simp[range_succ,replicate_succ]
theorem AD(k:Nat)(hk:k<256):(jH k)[k]?=some (.int .u32 0):=by
 simp only[jH,getElem?_toArray];rw[getElem?_append_right (by simp)];obtain⟨m,hm⟩:∃m,256-k=m+1:=⟨256-k-1,by omega⟩;rw[hm];simp[replicate_succ]
theorem rM(h c:Int):0<=cQ h c/\cQ h c<4294967296:=by unfold cQ;omega
theorem Fy(x:Int):(bits BinOp.and IntKind.u32 x 0 != 0)=false:=by
 have h:bits BinOp.and IntKind.u32 x 0=0:=by
  show IntKind.u32.wrap ((BitVec.ofInt 32 x &&& BitVec.ofInt 32 0).toNat:Int)=0;rw[show BitVec.ofInt 32 0=0#32 from rfl,BitVec.and_zero];rfl
 simp[h]
def cJ:Int->Nat->List UInt8->List Nat
 | _,_,[]=>[]
 | h,n,c::cs=>if dy (cQ h c.toNat) (n+1) || cs.isEmpty then(n+1)::cJ 0 0 cs else cJ (cQ h c.toNat) (n+1) cs
def aE(data:List UInt8):List Nat:=cJ 0 0 data
theorem qP(h:Int)(n:Nat)(c:UInt8)(cs:List UInt8)(e:dy (cQ h c.toNat) (n+1)=true):cJ h n (c::cs)=(n+1)::cJ 0 0 cs:=by
 rw[cJ];simp[e]
theorem o7(h:Int)(n:Nat)(c:UInt8):cJ h n [c]=[n+1]:=by rw[cJ];simp[cJ]
theorem tM(h:Int)(n:Nat)(c:UInt8)(cs:List UInt8)(e:dy (cQ h c.toNat) (n+1)=false)(hcs:cs≠[]):cJ h n (c::cs)=cJ (cQ h c.toNat) (n+1) cs:=by
 rw[cJ];simp[e,hcs]
theorem sq(l:List UInt8):∀h n,(cJ h n l).length<=l.length:=by
 induction l with
 | nil=>intro h n;simp[cJ]
 | cons c cs ih =>
  intro h n;rw[cJ];split
  ·have:=ih 0 0;simp;omega
  ·have:=ih (cQ h c.toNat) (n+1);simp;omega
theorem FJ(l:List UInt8):∀h n,l≠[]->(cJ h n l).sum=l.length+n:=by
 induction l with
 | nil=>intro h n hl;exact absurd rfl hl
 | cons c cs ih =>
  intro h n _;rw[cJ];split
  ·by_cases hc:cs=[]
   ·subst hc;simp[cJ];omega
   ·have:=ih 0 0 hc;simp;omega
  ·rename_i hn;have hc:cs≠[]:=by intro hc;subst hc;simp at hn
   have:=ih (cQ h c.toNat) (n+1) hc;simp;omega
theorem gY(l:List UInt8):(aE l).sum=l.length:=by
 by_cases h:l=[]
 ·subst h;simp[aE,cJ]
 ·have:=FJ l 0 0 h;simpa[aE]using this
theorem cK(l:List UInt8):(aE l).length<=l.length:=sq l 0 0
def eN(w:World)(d off:Nat)(l:List UInt8):Prop:=∀j (h:j<l.length),w.cell? ⟨d,off+j,none⟩=some (.int .u8 ((l[j]'h).toNat:Nat))
theorem eN.keep{S:Nat->Prop}{w w':World}{d off:Nat}{l:List UInt8}(h:eN w d off l)(hm:Mods S w w')(hS:¬S d):eN w' d off l:=fun j hj=>by
 have hc:=h j hj
 have hlt:=World.block_lt_of_cell? w _ hc
 exact(World.cell?_of_block (w:=w) (hm.block d hlt hS)).trans hc
end
section
open Go.RowKit
theorem IK:(Tryz.prog.info? 3).map (fun i=>(i.zero,i.size,i.bytes))=some (some (.int .i64 0),1,8):=by kernel_rfl
def G4(c:Nat)(w:World)(e:Ending)(w':World):Prop:=e=.returned (.int .u32 (oz c))/\w=w'
theorem Df(c:Nat)(hc:c<256)(w:World):Calls Tryz.prog 101 #[.int .u8 c] w (G4 c w):=by
 go_enter Tryz.func101,Tryz.ntmps101;go_wp2;go_ret;exact⟨rfl,rfl⟩
theorem oo(x:Int)(m k:Nat)(hm:m+1=2 ^ k)(hk:k<=32)(h0:0<=x)(h1:x<4294967296):bits BinOp.and IntKind.u32 x m=x%(m+1:Nat):=by
 obtain⟨n,rfl⟩:=Int.eq_ofNat_of_zero_le h0;have hp:(2:Nat) ^ k<=2 ^ 32:=Nat.pow_le_pow_right (by omega) hk;have e1:(BitVec.ofInt 32 (n:Int)).toNat=n:=by rw[BitVec.ofInt_natCast,BitVec.toNat_ofNat];exact Nat.mod_eq_of_lt (by omega)
 have e2:(BitVec.ofInt 32 (m:Int)).toNat=m:=by rw[BitVec.ofInt_natCast,BitVec.toNat_ofNat];exact Nat.mod_eq_of_lt (by omega)
 have e3:n &&& m=n%2 ^ k:=by
  have:=Nat.and_two_pow_sub_one_eq_mod n k;rw[<- hm,Nat.add_sub_cancel]at this;rw[<- hm];exact this
 show IntKind.u32.wrap ((BitVec.ofInt 32 (n:Int) &&& BitVec.ofInt 32 (m:Int)).toNat:Int)=_;rw[BitVec.toNat_and,e1,e2,e3,IntKind.wrap_u32,hm];have:n%2 ^ k<2 ^ k:=Nat.mod_lt _ (Nat.two_pow_pos k);omega
theorem Iw(h:Int)(n:Nat)(h0:0<=h)(h1:h<4294967296):
  dy h n=(decide (256<=n) || (decide (64<=n)&&(h%16==0)) || (decide (16<=n)&&decide (n<64)&&(h%256==0))):=by
 have e1:=oo h 15 4 rfl (by omega) h0 h1;have e2:=oo h 255 8 rfl (by omega) h0 h1;unfold dy;rw[show((15:Int))=((15:Nat):Int)from rfl,show((255:Int))=((255:Nat):Int)from rfl,e1,e2];by_cases a:256<=n
 ·simp[a]
 ·by_cases b:64<=n
  ·have c:¬n<64:=by omega
   simp[a,b,c,bne]
  ·have c:n<64:=by omega
   by_cases d:16<=n<;>simp[a,b,c,d,bne]
def zD(data:List UInt8)(w:World)(e:Ending)(w':World):Prop :=
 ∃v,e=.returned v/\w'.ownsRow w.heap.size 3 1 v (aE data).length ((aE data).map fun n:Nat=>Value.int .i64 n)/\aQ w w'
theorem Iz(h c:Int)(n:Nat):dy (cQ h c) (n+1)=true↔(256<=(n:Int)+1\/(64<=(n:Int)+1/\(h*2+oz c)%16=0)\/(16<=(n:Int)+1/\(n:Int)+1<64/\(h*2+oz c)%256=0)):=by
 have hr:=rM h c;rw[Iw _ _ hr.1 hr.2];have e1:cQ h c%16=(h*2+oz c)%16:=by unfold cQ;omega
 have e2:cQ h c%256=(h*2+oz c)%256:=by unfold cQ;omega
 rw[e1,e2];simp only[Bool.or_eq_true,Bool.and_eq_true,decide_eq_true_eq,beq_iff_eq];omega
def Cv(data:List UInt8)(w:World)(out hh nn ii:Value)(wr:World):Prop :=
 ∃(k n:Nat) (h:Int) (os:List Nat),k<=data.length/\ii=.int .i64 k/\nn=.int .i64 n/\hh=.int .u32 h/\0<=h/\h<4294967296/\n<256/\n<=k /\
   os++cJ h n (data.drop k)=aE data/\os.length<=k/\wr.ownsRow 0 3 1 out os.length (os.map fun n:Nat=>Value.int .i64 n)/\(∀g,out.ownBlock=some g->w.heap.size<=g)/\aQ w wr
theorem DT{data:List UInt8}{w wr w3:World}{v v':Value}{o:Obj}{k n:Nat}{h:Int}{os:List Nat}{x:UInt8}(hlt:k<data.length)(hx:x=data[k])(hos:os++cJ h n (data.drop k)=aE data)(hol:os.length<=k)(hbl:∀g,v.ownBlock=some g->w.heap.size<=g)(hs:aQ w wr)(he:k+1=data.length\/dy (cQ h x.toNat) (n+1)=true)(hown:w3.ownsRow 0 3 1 v' (os.length+1) ((os.map fun n:Nat=>Value.int .i64 n)++[.int .i64 ((n:Int)+1)]))(hgrow:(wr.alloc o).grownBy w3 v.ownBlock)(hg:∀g,v'.ownBlock=some g->v.ownBlock=some g\/(wr.alloc o).heap.size<=g)(m:Int)(hm:m=(k:Int)+1):
  Cv data w v' (.int .u32 0) (.int .i64 0) (.int .i64 m) w3:=by
 have hd:data.drop k=x::data.drop (k+1):=by rw[hx];exact drop_eq_getElem_cons hlt
 have hc:cJ h n (data.drop k)=(n+1)::cJ 0 0 (data.drop (k+1)):=by
  rw[hd];rcases he with he|he
  ·rw[show data.drop (k+1)=[]from drop_of_length_le (by omega),o7];rfl
  ·exact qP _ _ _ _ he
 refine⟨k+1,0,0,os++[n+1],by omega,by simp[hm],rfl,rfl,by omega,by omega,by omega,by omega,?_,by simp;omega,?_,?_,?_⟩
 ·rw[<- hos,hc];simp
 ·simpa using hown
 ·intro g h';have:=hs.size;rcases hg g h' with h2|h2
  ·exact hbl g h2
  ·simp at h2;omega
 ·exact(hs.alloc o).grown hgrow (fun k hk=>.inr (hbl k hk))
theorem BB{data:List UInt8}{w wr:World}{v:Value}{k n:Nat}{h m:Int}{os:List Nat}{x:UInt8}(hlt:k<data.length)(hx:x=data[k])(hos:os++cJ h n (data.drop k)=aE data)(hol:os.length<=k)(hnk:n<=k)(hown:wr.ownsRow 0 3 1 v os.length (os.map fun n:Nat=>Value.int .i64 n))(hbl:∀g,v.ownBlock=some g->w.heap.size<=g)(hs:aQ w wr)(he:¬(k+1=data.length\/dy (cQ h x.toNat) (n+1)=true))(hm:m=cQ h x.toNat):
  Cv data w v (.int .u32 m) (.int .i64 ((n:Int)+1)) (.int .i64 ((k:Int)+1)) wr:=by
 have hd:data.drop k=x::data.drop (k+1):=by rw[hx];exact drop_eq_getElem_cons hlt
 have he2:dy (cQ h x.toNat) (n+1)=false:=by
  cases hz:dy (cQ h x.toNat) (n+1)
  ·rfl
  ·exact absurd (.inr hz) he
 have hr:=rM h x.toNat;refine⟨k+1,n+1,cQ h x.toNat,os,by omega,by simp,by simp,by rw[hm],hr.1,hr.2,?_,by omega,?_,by omega,hown,hbl,hs⟩
 ·rcases Nat.lt_or_ge (n+1) 256 with h'|h'
  ·exact h'
  ·rw[pY h']at he2;cases he2
 ·rw[<- hos,hd,tM _ _ _ _ he2];intro hn;have:=drop_eq_nil_iff.1 hn;exact he (.inl (by omega))
theorem vS(a:Option Addr)(cap:Nat)(data:List UInt8)(w:World)(hd:ak w a (data.map al))(hmax:data.length<=1099511627776):
  Calls Tryz.prog 62 #[.slice a data.length cap] w (zD data w):=by
 go_enter Tryz.func62,Tryz.ntmps62;go_wp2;obtain⟨i0,hi0,hz1,hz2,hz3⟩:=info_parts IK;go_loopw [3,4,5,6] (Cv data w) (fun _ _ _ ii _=>data.length-(intOf ii).toNat)
 case atStart=>exact⟨0,0,0,[],by omega,rfl,rfl,rfl,by omega,by omega,by omega,by omega,rfl,by simp,World.ownsRow_nil _ _ _ _,by simp[Value.ownBlock],Mods.refl _ _⟩
 case round =>
  obtain⟨k,n,h,os,hk,rfl,rfl,rfl,hh0,hh1,hn,hnk,hos,hol,hown,hbl,hs⟩:=hrel;have HO:=Hq4 hos hown hbl hs;clear hos hown hbl hs;by_cases hlt:k<data.length
  ·obtain⟨g1,o1,rfl,hc1⟩:=hd (by simp;omega);have hk1:w.cell? ⟨g1,o1+k,none⟩=some (al data[k]):=by rw[hc1 k (by simpa using hlt)];simp
   have hk2:=(World.cell?_of_block (w:=w) (HO.x.block g1 (World.block_lt_of_cell? w _ hk1) id)).trans hk1;obtain⟨x,hx⟩:∃x,x=data[k]:=⟨_,rfl⟩;rw[<- hx]at hk2;unfold al at hk2;have HX:=qqH hx;have hxl:=x.toNat_lt;have HE:=qqH (Iz h x.toNat n);clear hx hk1 hc1 hd
   go_wp2_with (first
    | (go_at_call 101;refine(Df _ hxl _).mono ?_;rintro e w2 ⟨rfl,rfl⟩)
    | (at_builtin;refine gB _ rfl _ _ 96 rfl 3 i0 (.int .i64 0) 1 8 Tryz.underlying96 hi0 hz1 hz2 hz3 rfl (by decide) _ _ _ rfl (HO.b.alloc _) ⟨wr.heap.size,0,none⟩ 1 1 [.int .i64 ((n:Int)+1)] rfl rfl (cell_one_new _ _ _) (by simp[Value.oneCell']) (by unfold maxLen;omega) (by omega) ?_;intro v' A3 hown' hgrow _ hgb))
   all_goals go_roundw
   all_goals
    first
    | (
     refine DT hlt HX.out HO.a hol HO.c HO.x ?_ hown' hgrow hgb _ ?_
     ·first
      | exact .inl (by omega)
      | exact .inr ((HE.out).2 (.inl (by omega)))
      | exact .inr ((HE.out).2 (.inr (.inl ⟨by omega,eq_of_beq (by assumption)⟩)))
      | exact .inr ((HE.out).2 (.inr (.inr ⟨by omega,by omega,eq_of_beq (by assumption)⟩)))
      | (
       refine .inr ((HE.out).2 (.inl ?_));have hq:((k:Int)==(data.length:Int)-1)=true\/((n:Int)+1==256)=true:=by assumption
       rcases hq with h'|h'<;>(have:=eq_of_beq h';omega))
      | (
       exfalso;have hq:((k:Int)==(data.length:Int)-1)=true\/((n:Int)+1==256)=true:=by assumption
       rcases hq with h'|h'<;>(have:=eq_of_beq h';omega))
     ·omega)
    | (
     refine BB hlt HX.out HO.a hol hnk HO.b HO.c HO.x ?_ rfl
     have key:∀c:Int,0<=c->¬(256<=(n:Int)+1):=fun _ _=>by
      first
      | omega
      | (
       have hq:((k:Int)==(data.length:Int)-1)=false/\((n:Int)+1==256)=false:=by assumption
       have:=ne_of_beq_false hq.2;omega)
     intro hh;rcases hh with hh|hh
     ·omega
     ·rcases(HE.out).1 hh with h1|⟨h1,h2⟩|⟨h1,h2,h3⟩
      ·exact key 0 (by omega) h1
      ·first
       | omega
       | exact ne_of_beq_false (by assumption) h2
      ·first
       | omega
       | exact ne_of_beq_false (by assumption) h3)
    | (simp[intOf];omega)
  ·obtain⟨hos,hown,hbl,hs⟩:=HO.out;have hkk:k=data.length:=by omega
   have hP':os=aE data:=by rw[hkk,drop_length]at hos;simpa[cJ]using hos
   have hP:=qqH hP';clear hP';have HF:=Hq3 hown hbl hs;clear hos hown hbl hs hkk;go_wp2;go_ret;exact⟨_,rfl,by rw[<- hP.out];exact yL HF.a HF.b,HF.y⟩
end
section
open Go.RowKit Go.Maps
def au(D:Bs):List Bs:=da (aE D) D
def eM(l:List VerL):Nat:=(l.getLast?.map (·.num)).getD 0
def bC(S:AS)(D:Bs):List Bs:=bX (S.K.map (·.1)) [] (au D)
def dY(l:List Bs):Bs:=(l.map (frame 1)).flatten
structure PutStep (S S':AS) (l D:Bs) (V:VerL):Prop where
 a:S'.a=S.a
 quota:S'.X.quota=S.X.quota
 closed:S'.X.closed=S.X.closed
 ep:S'.X.ep=S.X.ep
 d:S'.X.d=S.X.d
 n:S'.L.n=S.L.n
 sc:S'.X.sc=S.X.sc+(bC S D).length
 sb:S'.X.sb=S.X.sb+((bC S D).map length).sum
 used:S'.X.used=S.X.used+D.length
 K:S'.K=S.K++b8 S.data.length (bC S D)
 ts:S'.ts=S.ts
 vers:∀m,af S'.ps m=if m=l then af S.ps l++[V]else af S.ps m
 num:V.num=eM (af S.ps l)+1
 size:V.size=D.length
 held:V.held=0
 nchs:V.chs.length=(au D).length
 chs:∀e∈(au D).zip V.chs,e∈S'.K
 data:S'.data=S.data++dY (bC S D)++frame 2 (eF l V.num V.size (br V.chs))
 other:∀f2 c2,(f2+c2<=S.A.first\/S.A.first+S.A.count<=f2)->aC S'.L.now f2 c2=aC S.L.now f2 c2
def Cr(S:AS)(D:Bs)(b:Nat)(S':AS):Prop:=∀b',b+(bC S D).length+2<=b'->(au D).length<=b'->ArB S' b'
def Em(S:AS)(l D:Bs)(b:Nat)(w:World)(e:Ending)(w':World):Prop :=
 (∃n,e=.returned (.tuple #[.int .i64 0,ck n])/\Turns (arF S) (arF S) w w' /\
  (
   (S.X.closed=true/\n=9)\/(S.X.closed=false/\aq l=false/\n=1)\/(S.X.closed=false/\aq l=true/\4000<D.length/\n=2) \/
   (S.X.closed=false/\aq l=true/\D.length<=4000/\S.X.quota<S.X.used+D.length/\n=7))) \/
 (S.X.closed=false/\aq l=true/\D.length<=4000/\S.X.used+D.length<=S.X.quota /\
  (
   (∃sp chs,e=.returned (.tuple #[.int .i64 0,ck 8])/\AreaOk { S.A with spare:=sp }/\Turns (arF S) (arF { S with A:={ S.A with spare:=sp } }) w w' /\
     128*S.A.count<S.data.length+(dY (bC S D)).length+(frame 2 (eF l (eM (af S.ps l)+1) D.length (br chs))).length/\chs.length=(au D).length) \/
   (∃S' V,e=.returned (.tuple #[.int .i64 (eM (af S.ps l)+1),.nilIface])/\PutStep S S' l D V/\ArOk S'/\Cr S D b S'/\Turns (arF S) (arF S') w w')))
end
section
theorem Iv{h:Int}{n:Nat}(e:dy h n=true):16<=n:=by
 rcases Nat.lt_or_ge n 16 with h'|h'
 ·rw[Iy h']at e;cases e
 ·exact h'
theorem yr(l:List UInt8):∀h n,n<256->∀i (hi:i<(cJ h n l).length),1<=(cJ h n l)[i]/\(cJ h n l)[i]<=256/\(i+1<(cJ h n l).length->16<=(cJ h n l)[i]):=by
 induction l with
 | nil=>intro h n _ i hi;simp[cJ]at hi
 | cons c cs ih =>
  intro h n hn i
  cases he:dy (cQ h c.toNat) (n+1)
  ·by_cases hc:cs=[]
   ·subst hc;rw[o7];intro hi;have hi0:i=0:=by simp at hi;omega
    subst hi0;refine⟨?_,?_,?_⟩
    ·simp
    ·simp;omega
    ·simp
   ·rw[tM _ _ _ _ he hc]
    have hn1:n+1<256:=by
     rcases Nat.lt_or_ge (n+1) 256 with h'|h'
     ·exact h'
     ·rw[pY h']at he;cases he
    exact ih _ _ hn1 i
  ·rw[qP _ _ _ _ he];intro hi
   cases i with
   | zero=>exact⟨by simp,by simp;omega,fun _=>by have:=Iv he;simpa using this⟩
   | succ i =>
    have hi':i<(cJ 0 0 cs).length:=by simpa using hi
    have:=ih 0 0 (by omega) i hi';simpa using this
theorem oA(l:List UInt8)(i:Nat)(hi:i<(aE l).length):1<=(aE l)[i]/\(aE l)[i]<=256/\(i+1<(aE l).length->16<=(aE l)[i]) :=
 yr l 0 0 (by omega) i hi
end
section
open Go.RowKit
end
section
open Go.RowKit Go.Maps
structure SlB where
 val:Value
 bs:Bs
def Cx(w:World)(x:SlB):Prop:=∃sl cap,x.val=.slice sl x.bs.length cap/\x.bs.length<=cap/\cap<=9223372036854775807/\ak w sl (x.bs.map al)
def cN(v:Value)(l:List SlB):HF:=bK 35 1 v l.length (l.map (·.val))
def uP(v:Value)(l:List SlB):Prop:=et 1 v l.length (l.map (·.val))
def mC(l:List Bs)(c:Bs):List Bs:=if c∈l then l else l++[c]
def dU(l:List Bs)(cs:List Bs):List Bs:=cs.foldl mC l
def mH(csl:Option Addr)(ccap:Nat)(c:Bs)(x:SlB):Prop :=
 ∃g off k,csl=some ⟨g,off,none⟩/\x.val=.slice (some ⟨g,off+k,none⟩) x.bs.length (ccap-k)/\x.bs=(c.drop k).take x.bs.length/\k+x.bs.length<=c.length
theorem mH.at{csl:Option Addr}{ccap:Nat}{c:Bs}{x:SlB}(h:mH csl ccap c x){w:World}(hc:ak w csl (c.map al))(hcap:c.length<=ccap)(hc9:ccap<=9223372036854775807):Cx w x:=by
 obtain⟨g,off,k,e1,e2,e3,e4⟩:=h;refine⟨_,_,e2,by omega,by omega,fun hp=>⟨g,off+k,rfl,fun j hj=>?_⟩⟩;rw[length_map]at hp hj;obtain⟨g',off',e5,h5⟩:=hc (by rw[length_map];omega);rw[e1]at e5;simp only[Option.some.injEq,Addr.mk.injEq,and_true]at e5;obtain⟨rfl,rfl⟩:=e5;rw[Nat.add_assoc,h5 (k+j) (by rw[length_map];omega)];simp only[getElem_map];congr 2;have:x.bs[j]?=c[k+j]?:=by rw[e3,getElem?_take,if_pos hj,getElem?_drop]
 rw[getElem?_eq_getElem hj,getElem?_eq_getElem (by omega)]at this;exact(Option.some.inj this).symm
theorem kp{w:World}{v:Value}{l:List SlB}(hs:Sat w (cN v l))(h:uP v l):∃sl cap,v=.slice sl l.length cap/\l.length<=cap/\cap<=9223372036854775807/\ak w sl (l.map (·.val)):=by
 obtain⟨sl,cap,e,h1,h2,h3,-⟩:=bv hs h (by decide);exact⟨sl,cap,e,h1,h2,h3⟩
theorem vz(a:Option Addr)(cap:Nat)(data:Bs)(w:World)(hd:ak w a (data.map al))(hmax:data.length<=1099511627776):
  Calls Tryz.prog 62 #[.slice a data.length cap] w (fun e w'=>∃v,e=.returned v/\et 1 v (aE data).length ((aE data).map fun n:Nat=>Value.int .i64 n)/\Turns [] (bK 3 1 v (aE data).length ((aE data).map fun n:Nat=>Value.int .i64 n)) w w'):=by
 refine(vS a cap data w hd hmax).mono ?_;rintro e w' ⟨v,rfl,ho,hs⟩;have ho0:w'.ownsRow 0 3 1 v (aE data).length ((aE data).map fun n:Nat=>Value.int .i64 n):=⟨ho.1,ho.2.imp id (fun⟨g,cap,cur,h1,_,h2⟩=>⟨g,cap,cur,h1,Nat.zero_le _,h2⟩)⟩;obtain⟨h1,h2⟩:=fg ho0;refine⟨v,rfl,h2,hs.mods _,h1,fun b hb=>.inr ?_⟩;rw[eK]at hb;rcases ho.2 with⟨rfl,_⟩|⟨g,cap,cur,rfl,hg,_⟩
 ·cases hb
 ·obtain rfl:=Option.some.inj hb;exact hg
theorem KG{P:Program}{t:TypeId}(a b:Bs)(w:World):(binOp .eql t (str a) (str b)).run P w=.ok (.bool (decide (a=b))) w:=by
 unfold str;simp[binOp,Op.stringOp,Lib.toList_data];rw[Bool.eq_iff_iff];simp
theorem pO{w:World}{sl:Option Addr}{l:Bs}(cap:Nat)(h:ak w sl (l.map al)):(do let v <- convert 35 9 (.slice sl l.length cap);pure (Next.value v)).run Tryz.prog w=.ok (.value (str l)) w:=by
 simp[jQ _ h]
theorem ti(l:List Bs)(cs:List Bs)(c:Bs):dU l (cs++[c])=mC (dU l cs) c:=by unfold dU;rw[foldl_append];rfl
def Hi(csl:Option Addr)(ccap:Nat)(c:Bs)(v0:Value)(M:List SlB)(w:World)(e:Ending)(w':World):Prop :=
 ∃v M',e=.returned v/\uP v M'/\M'.map (·.bs)=dU (M.map (·.bs)) (au c)/\(∀x∈M',x∈M\/mH csl ccap c x)/\Turns (cN v0 M) (cN v M') w w'
theorem wo(l cs:List Bs):(dU l cs).length<=l.length+cs.length:=by
 unfold dU;induction cs generalizing l with
 | nil=>simp
 | cons c r ih =>
  have h1:=ih (mC l c);have h2:(mC l c).length<=l.length+1:=by unfold mC;split<;>simp
  simp only[foldl_cons,length_cons];omega
theorem uu(csl:Option Addr)(ccap:Nat)(c:Bs)(v0:Value)(M:List SlB)(w:World)(hs:Sat w (cN v0 M))(hok:uP v0 M)(hM:∀W G,Turns (cN v0 M) G w W->∀x∈M,Cx W x)(hc:∀W G,Turns (cN v0 M) G w W->ak W csl (c.map al))(hcap:c.length<=ccap)(hcap9:ccap<=9223372036854775807)(hcl:c.length<=1000000)(hml:M.length+c.length<=900000):
  Calls Tryz.prog 17 #[v0,.slice csl c.length ccap] w (Hi csl ccap c v0 M w):=by
 obtain⟨F1,hF1⟩:∃F1,F1=cN v0 M:=⟨_,rfl⟩;have hT0:Turns F1 (cN v0 M) w w:=by rw[hF1];exact Turns.refl hs
 have hcw:=hc w _ (Turns.refl hs);rw[<- hF1]at hM hc;have HC:=qqH (vz csl ccap c w hcw (by omega));have HH:=Hq5 hM hc hok hT0 hF1;clear hs hM hc hok hT0 hF1 hcw;obtain⟨rs0,rc0,hv0,-,-,-⟩:=kp HH.d.sat HH.c;have HV0:=qqH hv0;go_enter Tryz.func17,Tryz.ntmps17;go_wp2_with fail;refine HC.out.mono ?_;rintro e w1 ⟨lv,rfl,hlok,hT1⟩;obtain⟨ls,hls⟩:∃ls,ls=aE c:=⟨_,rfl⟩;rw[<- hls]at hlok hT1;have hT1':Turns F1 (cN v0 M++(bK 3 1 lv ls.length (ls.map fun n:Nat=>Value.int .i64 n)++[])) w w1:=(HH.d.trans (by have:=hT1.frame (R:=cN v0 M) (by simpa using HH.d.sat);simpa using this)).to ac;have hll:ls.length<=c.length:=by rw[hls];exact cK c
 have H1:=Hq3 hlok hT1' hls;clear hlok hT1 hT1' hls;obtain⟨lsl,lcap,hlv,hl2,hl3,-,-⟩:=bv (H1.b.sat.right.left) H1.a (by decide);have HLV:=qqH hlv;rw[hlv];clear hlv;go_wp2_with fail;go_loopw [0,6,7] (fun l a i wr=>∃(k:Nat) (M':List SlB) (J:HF),k<=ls.length/\i=.int .i64 k/\a=.int .i64 ((ls.take k).sum:Nat)/\uP l M'/\M'.map (·.bs)=dU (M.map (·.bs)) ((au c).take k)/\(∀x∈M',x∈M\/mH csl ccap c x)/\Turns F1 (cN l M'++(bK 3 1 (.slice lsl ls.length lcap) ls.length (ls.map fun n:Nat=>Value.int .i64 n)++J)) w wr) (fun _ _ i _=>ls.length-(intOf i).toNat)
 case atStart=>exact⟨0,M,[],Nat.zero_le _,rfl,rfl,hv0 ▸ HH.c,rfl,fun x hx=>.inl hx,by rw[<- hv0,<- HLV.out];exact H1.b⟩
 case round =>
  obtain⟨i,M',J,hi,rfl,rfl,hok,hbs,hpo,hT⟩:=hrel;obtain⟨lsl',lcap',hlv',-,-,hlc,-⟩:=bv (hT.sat.right.left) (HLV.out ▸ H1.a) (by decide);simp only[Value.slice.injEq,true_and]at hlv';obtain⟨rfl,rfl⟩:=hlv';obtain⟨rsl,rcap,hrv,hr2,hr3,hrc⟩:=kp hT.sat.left hok;subst hrv
  have hm:M'.length<=M.length+i:=by
   have h1:=congrArg length hbs;have h2:=wo (M.map (·.bs)) ((au c).take i);rw[length_map]at h1;rw[length_map,length_take]at h2;omega
  have hm9:M'.length<=900000:=by omega
  have HR:=Hq4 hok hbs hpo hT;clear hok hbs hpo hT hm;by_cases hlt:i<ls.length
  ·obtain⟨lg,loff,hlg,hlcell⟩:=hlc (by rw[length_map];omega);subst hlg;have hci:=hlcell i (by rw[length_map];exact hlt);rw[getElem_map]at hci;obtain⟨n,hn⟩:∃n,n=ls[i]:=⟨_,rfl⟩;rw[<- hn]at hci;have hsum:(ls.take (i+1)).sum=(ls.take i).sum+n:=by rw[QH hlt,sum_append,hn];simp
   have htot:(ls.take (i+1)).sum<=c.length:=by
    have h1:=gY c;rw[<- H1.y]at h1;have h2:ls.sum=(ls.take (i+1)).sum+(ls.drop (i+1)).sum:=by rw[<- sum_append,take_append_drop]
    omega
   have hn1:1<=n:=by rw[hn];have h1:=oA c i (by rw[<- H1.y];exact hlt);simp only[<- H1.y]at h1;exact h1.1
   obtain⟨a,ha⟩:∃a,a=(ls.take i).sum:=⟨_,rfl⟩;rw[<- ha]at hsum ⊢
   have hbk:(au c).take (i+1)=(au c).take i++[(c.drop a).take n]:=by
    have h1:i<(au c).length:=by unfold au;rw[cA,<- H1.y];exact hlt
    have hce:(au c)[i]=(c.drop a).take n:=by
     have h3:=jc (aE c) c i (by rw[<- H1.y];exact hlt);simp only[<- H1.y,<- ha,<- hn]at h3;refine Eq.trans ?_ h3;unfold au;simp only[<- H1.y]
    rw[QH h1,hce]
   obtain⟨bk,hbkd⟩:∃bk,bk=(c.drop a).take n:=⟨_,rfl⟩;have hbl:bk.length=n:=by rw[hbkd,length_take,length_drop];omega
   obtain⟨g,off,hg,-⟩:=HH.b _ _ HR.x (by rw[length_map];omega);have hpart:mH csl ccap c ⟨.slice (some ⟨g,off+a,none⟩) n (ccap-a),bk⟩:=⟨g,off,a,hg,by simp only[hbl],by simp only[hbl];exact hbkd,by simp only[hbl];omega⟩;rw[<- hbkd]at hbk;subst hg;have hne:¬ccap=a:=by omega
   have han:a+n<=ccap:=by omega
   have hHX:=Hq5 hsum hbk hpart hbkd hbl;have hx1:((a:Int)+n).toNat=a+n:=by omega
   have hx2:a+n-a=n:=by omega
   have ha9:a<=1000000:=by omega
   have hn9:n<=1000000:=by omega
   have HN:=qqH hn;clear hlcell hlc hsum hbk hpart hbkd hbl htot hn ha;rename World=>W0
   go_wp2_with fail;go_loopw [9,10] (fun th kk W2=>∃(k:Nat) (b:Bool),k<=M'.length/\kk=.int .i64 k/\th=.bool b/\(b=true->bk∈M'.map (·.bs))/\(b=false->bk∉(M'.take k).map (·.bs))/\aQ W0 W2) (fun _ kk _=>M'.length-(intOf kk).toNat)
   case atStart=>exact⟨0,false,Nat.zero_le _,rfl,rfl,(fun h=>by cases h),(fun _=>by simp),Mods.refl _ _⟩
   case round =>
    obtain⟨k,b,hk,rfl,rfl,hb1,hb2,hsm⟩:=hrel;have hT:=HR.x.Q9 hsm
    have hcl':∀(W:World) (G:HF),Turns F1 (G++(bK 3 1 (.slice (some ⟨lg,loff,none⟩) ls.length lcap) ls.length (ls.map fun n:Nat=>Value.int .i64 n)++J)) w W->W.cell? ⟨lg,loff+i,none⟩=some (.int .i64 n):=by
     intro W G hTW;obtain⟨a',c',e',-,-,hc',-⟩:=bv (hTW.sat.right.left) (HLV.out ▸ H1.a) (by decide);simp only[Value.slice.injEq,true_and]at e';obtain⟨rfl,rfl⟩:=e';obtain⟨g',o',e2,h2⟩:=hc' (by rw[length_map];omega);simp only[Option.some.injEq,Addr.mk.injEq,and_true]at e2;obtain⟨rfl,rfl⟩:=e2;rw[h2 i (by rw[length_map];exact hlt),getElem_map,<- HN.out]
    have hci':=hcl' _ _ hT;have HCL:=qqH hcl';have HB:=Hq4 hb1 hb2 hsm hT;clear hb1 hb2 hsm hT hcl' hci hrc
    cases b with
    | true =>
     go_wp2_with fail;all_goals refine⟨⟨i+1,M',J,by omega,by go_num,by rw[hHX.a];go_num,HR.a,(by rw[hHX.b,ti,HR.b.symm];unfold mC;rw[if_pos (HB.a (by trivial))]),HR.c,HB.x⟩,?_⟩
     all_goals (simp[intOf];omega)
    | false =>
     by_cases hkm:k<M'.length
     ·obtain⟨q,hq⟩:∃q,q=M'[k]:=⟨_,rfl⟩;obtain⟨rsl2,rcap2,hrv2,-,-,hrc2⟩:=kp HB.x.sat.left HR.a;simp only[Value.slice.injEq,true_and]at hrv2;obtain⟨rfl,rfl⟩:=hrv2;have hown:=HR.a.2
      obtain⟨rg,hrg⟩:∃rg,rsl=some ⟨rg,0,none⟩:=by
       rcases(aR HB.x.sat.left HR.a).2 with⟨h1,h2⟩|⟨g1,cap1,cur1,h1,-⟩
       ·omega
       ·simp only[Value.slice.injEq]at h1;exact⟨g1,h1.1⟩
      subst hrg;obtain⟨g',o',e2,h2⟩:=hrc2 (by rw[length_map];omega);simp only[Option.some.injEq,Addr.mk.injEq,and_true]at e2;obtain⟨rfl,rfl⟩:=e2;have hqc:=h2 k (by rw[length_map];exact hkm);rw[getElem_map,<- hq,Nat.zero_add]at hqc
      have hqa:Cx wr q:=by
       rcases HR.c q (hq ▸ getElem_mem hkm)with h3|h3
       ·exact HH.a _ _ HB.x q h3
       ·exact h3.at (HH.b _ _ HB.x) hcap hcap9
      have hbv:∃sl cap,(.slice (some ⟨g,off+a,none⟩) n (ccap-a):Value)=.slice sl bk.length cap/\ak wr sl (bk.map al):=by
       obtain⟨sl,cap,e3,-,-,h4⟩:=hHX.c.at (HH.b _ _ HB.x) hcap hcap9;exact⟨sl,cap,e3,h4⟩
      have HQ:=Hq4 hqc hqa hbv hq;clear hqc hqa hbv hq h2 hrc2 hown;go_wp2_with fail;refine wp_region_still_lit HM.out (by kernel_rfl) ?_;obtain⟨W2,hW2⟩:∃W2:World,W2=wr.drew:=⟨_,rfl⟩;have c1:W2.cell? ⟨rg,k,none⟩=some q.val:=by rw[hW2];exact HQ.a
      have c2:Cx W2 q:=by rw[hW2];exact HQ.b
      obtain⟨sl,cap,e,-,-,hc⟩:=c2;obtain⟨sl2,cap2,e2,hc2⟩:∃sl cap,(.slice (some ⟨g,off+a,none⟩) n (ccap-a):Value)=.slice sl bk.length cap/\ak W2 sl (bk.map al):=by rw[hW2];exact HQ.c
      simp only[Value.slice.injEq]at e2;obtain⟨rfl,hn,rfl⟩:=e2;have hb:=pO (ccap-a) hc2;rw[<- hn]at hb;rw[e]at c1;change wpStill _ _ wr.drew _ _ _;rw[<- hW2];have HW2:=Hq3 hW2 hb hc;clear hW2 hb hc hc2 e hn;iterate 4 still_step
      refine eG rfl (v:=str q.bs) (by simp only[execOp];exact pO _ HW2.y) ?_;simp only[Act.put,QA,QB,QC];still_step;refine eG rfl (v:=str bk) (by simp only[execOp];exact HW2.b) ?_;refine eG rfl (v:=.bool (decide (q.bs=bk))) (by simp[execOp,eqGuard,KG,Act.eval,Act.put]) ?_;simp only[Act.put,QA,QB,QC];still_step;refine wpStill_nil ?_;clear c1
      have hfin:∃(k':Nat) (b':Bool),k'<=M'.length/\Value.int .i64 ((k:Int)+1)=.int .i64 k'/\Value.bool (decide (q.bs=bk))=.bool b'/\(b'=true->bk∈M'.map (·.bs))/\(b'=false->bk∉(M'.take k').map (·.bs))/\aQ W0 wr.drew:=by
       refine⟨k+1,decide (q.bs=bk),by omega,by go_num,rfl,fun h=>?_,fun h=>?_,HB.c.drew⟩
       ·rw[decide_eq_true_eq]at h;exact mem_map.2 ⟨q,HQ.x ▸ getElem_mem hkm,h⟩
       ·rw[decide_eq_false_iff_not]at h;rw[QH hkm,map_append,mem_append];rintro(h5|h5)
        ·exact HB.b (by trivial) h5
        ·simp only[map_cons,map_nil,mem_singleton]at h5;rw[<- HQ.x]at h5;exact h h5.symm
      have HF:=qqH hfin;clear hfin;go_wp2_with fail;go_roundw
      case rel=>exact HF.out
      case measure=>simp[intOf];omega
     ·obtain rfl:k=M'.length:=by omega
      have hnot:bk∉M'.map (·.bs):=by have:=HB.b (by trivial);rwa [take_length]at this
      have HN2:=qqH hnot;clear hnot;go_wp2_with ((at_builtin;refine ah rfl ?_;(refine mr (.tmp 48) (.tmp 50) rfl (.slice rsl M'.length rcap) (M'.map (·.val)) rfl (G:=bK 3 1 (.slice (some ⟨lg,loff,none⟩) ls.length lcap) ls.length (ls.map fun n:Nat=>Value.int .i64 n)++J) ((by simpa[cN]using HB.x.alloc _):Turns F1 _ w _) (by simpa[uP]using HR.a) _ (.slice (some ⟨g,off+a,none⟩) n (ccap-a)) rfl rfl (aa (aK _ _) 0 rfl) (by rw[length_map];omega) ?_);intro v2 w2 hok2 hT2;have hci2:=HCL.out _ _ hT2;have H2:=Hq2 hok2 hT2;clear hok2 hT2))
      have hlast:uP v2 (M'++[⟨.slice (some ⟨g,off+a,none⟩) n (ccap-a),bk⟩])/\Turns F1 (cN v2 (M'++[⟨.slice (some ⟨g,off+a,none⟩) n (ccap-a),bk⟩])++(bK 3 1 (.slice (some ⟨lg,loff,none⟩) ls.length lcap) ls.length (ls.map fun n:Nat=>Value.int .i64 n)++J)) w w2:=by
       have h1:=H2.a;have h2:=H2.z;unfold uP cN;rw[show(M'++[(⟨.slice (some ⟨g,off+a,none⟩) n (ccap-a),bk⟩:SlB)]).map (·.val)=List.map SlB.val M'++[Value.slice (some ⟨g,off+a,none⟩) n (ccap-a)] by simp];rw[show(M'++[(⟨.slice (some ⟨g,off+a,none⟩) n (ccap-a),bk⟩:SlB)]).length=(List.map SlB.val M'++[Value.slice (some ⟨g,off+a,none⟩) n (ccap-a)]).length by simp];exact⟨h1,h2⟩
      refine⟨⟨i+1,M'++[⟨.slice (some ⟨g,off+a,none⟩) n (ccap-a),bk⟩],J,by omega,by go_num,by rw[hHX.a];go_num,hlast.1,(by rw[hHX.b,ti,HR.b.symm];unfold mC;rw[if_neg HN2.out,map_append];rfl),(fun x hx=>by rcases mem_append.1 hx with h3|h3;exact HR.c x h3;exact .inr (mem_singleton.1 h3 ▸ hHX.c)),hlast.2⟩,?_⟩;simp[intOf];omega
  ·obtain rfl:i=ls.length:=by omega
   clear hlc hrc;go_wp2_with fail;go_ret;refine ⟨.slice rsl M'.length rcap,M',rfl,HR.a,?_,HR.c,?_⟩
   ·rw[HR.b,take_of_length_le (by unfold au;rw[cA,<- H1.y];exact Nat.le_refl _)]
   ·rw[<- HV0.out,<- HH.w];exact HR.x.drop (fun x=>by simp only[ai];omega)
def fB(l:List Bs):Nat:=(l.map length).sum
def cB(vs:List RVer):List Bs:=vs.foldl (fun l v=>dU l (au v.cont)) []
theorem yk{vs:List RVer}{k:Nat}(h:k<vs.length):cB (vs.take (k+1))=dU (cB (vs.take k)) (au vs[k].cont):=by
 unfold cB;rw[QH h,foldl_append];rfl
def nH(R:RefL)(x:SlB):Prop:=∃u∈R.vs,∃sl cap,u.cv=.slice sl u.cont.length cap/\u.cont.length<=cap/\cap<=9223372036854775807/\mH sl cap u.cont x
theorem nH.at{R:RefL}{P:eO}{w:World}{x:SlB}(hx:nH R x)(h:RefAt R P w):Cx w x:=by
 obtain⟨u,hu,sl,cap,e,h1,h2,h3⟩:=hx;obtain⟨sl',cap',e',h1',hc,-⟩:=h.cont hu;rw[e]at e';simp only[Value.slice.injEq,true_and]at e';obtain⟨rfl,rfl⟩:=e';exact h3.at hc h1 h2
def zA(R:RefL)(w:World)(e:Ending)(w':World):Prop :=
 ∃v M,e=.returned v/\uP v M/\M.map (·.bs)=cB R.vs/\(∀x∈M,nH R x)/\Turns [] (cN v M) w w'
theorem oC(R:RefL)(P:eO)(w:World)(h:RefAt R P w)(hu:∀j,j<=R.vs.length->(cB (R.vs.take j)).length<=700000):
  Calls Tryz.prog 30 #[.pointer (some ⟨R.blk,0,none⟩)] w (zA R w):=by
 have HR:=Hq2 h hu;have hlen:=h.len;clear h hu;go_enter Tryz.func30,Tryz.ntmps30;go_wp2_with fail;go_loopw [3,4] (fun l i wr=>∃(k:Nat) (M:List SlB) (J:HF),k<=R.vs.length/\i=.int .i64 k/\uP l M/\M.map (·.bs)=cB (R.vs.take k)/\(∀x∈M,nH R x)/\Turns [] (cN l M++J) w wr) (fun _ i _=>R.vs.length-(intOf i).toNat)
 case atStart=>exact⟨0,[],[],Nat.zero_le _,rfl,⟨rfl,fun _=>⟨rfl,rfl⟩⟩,rfl,(fun x hx=>by cases hx),Turns.refl (Sat.nil w)⟩
 case round =>
  obtain⟨k,M,J,hk,rfl,hlo,hM,hin,hT⟩:=hrel;have hra:=HR.a.same hT.news;obtain⟨sl,cap,e1,e2,e3,hb,hcell⟩:=hra.row;have c0:wr.cell? ⟨R.blk,0,none⟩=some (.slice sl R.vs.length cap):=by rw[<- e1];exact aa hb 0 rfl
  have hbl:=ae hb;have HT:=Hq4 hlo hM hin hT;by_cases hlt:k<R.vs.length
  ·obtain⟨g,off,hg,hcc⟩:=hcell (by omega);subst hg;obtain⟨-,-,hc,-⟩:=hcc k hlt
   have hrow:∃a c,(R.vs[k]'hlt).cv=.slice a (R.vs[k]'hlt).cont.length c/\(R.vs[k]'hlt).cont.length<=c/\c<=9223372036854775807:=by
    have hm:=HR.a.inp _ (getElem_mem hlt);have h1:Sat w (aA (R.vs[k]'hlt).cv (R.vs[k]'hlt).cont):=Sat.flat (f:=fun p:Value×Bs=>aA p.1 p.2) HR.a.pool hm;exact(dl h1 (HR.a.pok _ hm)).2.2
   obtain⟨csl,ccap,hcv,hcl,hcl9⟩:=hrow;rw[hcv]at hc;have hcm:=HR.a.clen _ (getElem_mem hlt)
   have hml:M.length+(R.vs[k]'hlt).cont.length<=900000:=by
    have h1:M.length=(cB (R.vs.take k)).length:=by rw[<- hM,length_map]
    have h2:=HR.z k hk;omega
   have hAdd:=uu csl ccap (R.vs[k]'hlt).cont u3 M wr hT.sat.left hlo (fun W G hG x hx=>(hin x hx).at (HR.a.same (hT.step (Perm.refl _) hG).news)) (fun W G hG=>by
    obtain⟨sl',cap',e',-,hcs,-⟩:=(HR.a.same (hT.step (Perm.refl _) hG).news).cont (getElem_mem hlt);rw[hcv]at e';simp only[Value.slice.injEq,true_and]at e';obtain⟨rfl,rfl⟩:=e';exact hcs) hcl hcl9 (by omega) hml
   obtain⟨cl,hcl2⟩:∃cl,cl=(R.vs[k]'hlt).cont:=⟨_,rfl⟩;rw[<- hcl2]at hc hAdd hcv hcl;have HA:=Hq5 hAdd hcl2 hcv hcl hcl9;clear hAdd hcl2 hcv hcl hcl9 hcm hml hcc hcell hb e1 hra hlo hM hin hT;go_wp2_with fail;refine HA.a.mono ?_;rintro e w5 ⟨v,M',rfl,hok',hM',hin',hT'⟩;have H5:=Hq4 hok' hM' hin' (HT.x.step (Perm.refl _) hT');clear hok' hM' hin' hT';go_wp2_with fail;go_roundw
   case rel =>
    refine⟨k+1,M',J,by omega,by go_num,H5.a,by rw[H5.b,yk hlt,HT.b,HA.b],fun x hx=>?_,H5.x⟩;rcases H5.c x hx with h1|h1
    ·exact HT.c x h1
    ·refine⟨_,getElem_mem hlt,csl,ccap,?_,?_,HA.w,?_⟩
     ·rw[<- HA.b];exact HA.c
     ·rw[<- HA.b];exact HA.d
     ·rw[<- HA.b];exact h1
   case measure=>simp[intOf];omega
  ·obtain rfl:k=R.vs.length:=by omega
   clear hcell hb e1 hra hlo hM hin hT;go_wp2_with fail;go_ret;exact⟨u3,M,rfl,HT.a,by rw[HT.b,take_length],HT.c,HT.x.drop (fun x=>by simp only[ai];omega)⟩
theorem r8(sl:Option Addr)(cap:Nat)(M:List SlB)(w:World)(hc:ak w sl (M.map (·.val)))(hM:∀x∈M,∃s c,x.val=.slice s x.bs.length c/\x.bs.length<=1000000)(hl:M.length<=900000):
  Calls Tryz.prog 33 #[.slice sl M.length cap] w (fun e w'=>e=.returned (.int .i64 (fB (M.map (·.bs)):Nat))/\aQ w w'):=by
 have HC:=Hq2 hc hM
 have hs:∀k,fB ((M.take k).map (·.bs))<=1000000*k:=fun k=>by
  have:∀l:List SlB,(∀x∈l,x.bs.length<=1000000)->fB (l.map (·.bs))<=1000000*l.length:=fun l=>by
   induction l with
   | nil=>intro _;simp[fB]
   | cons a r ih =>
    intro h;have h1:=h a (by simp);have h2:=ih (fun x hx=>h x (by simp[hx]));unfold fB at h2 ⊢;simp only[map_cons,sum_cons,length_cons];omega
  have h1:=this (M.take k) (fun x hx=>by obtain⟨-,-,-,h⟩:=hM x (mem_of_mem_take hx);exact h);have h2:(M.take k).length<=k:=by rw[length_take];omega
  omega
 have HS:=qqH hs;clear hc hM hs;go_enter Tryz.func33,Tryz.ntmps33;go_wp2_with fail;go_loopw [3,4] (fun n i wr=>∃k:Nat,k<=M.length/\i=.int .i64 k/\n=.int .i64 (fB ((M.take k).map (·.bs)):Nat)/\wr=w) (fun _ i _=>M.length-(intOf i).toNat)
 case atStart=>exact⟨0,Nat.zero_le _,rfl,rfl,rfl⟩
 case round =>
  obtain⟨k,hk,rfl,rfl,rfl⟩:=hrel;by_cases hlt:k<M.length
  ·obtain⟨g,off,hg,hcc⟩:=HC.a (by rw[length_map];omega);subst hg;have hc:=hcc k (by rw[length_map];exact hlt);rw[getElem_map]at hc;obtain⟨s,c,hv,hb⟩:=HC.z _ (getElem_mem hlt);rw[hv]at hc
   have htk:fB ((M.take (k+1)).map (·.bs))=fB ((M.take k).map (·.bs))+(M[k]'hlt).bs.length:=by
    unfold fB;rw[QH hlt,map_append,map_append,sum_append];simp
   have hub:=HS.out k;obtain⟨q,hq⟩:∃q,q=fB ((M.take k).map (·.bs)):=⟨_,rfl⟩;obtain⟨cl,hcl2⟩:∃cl,cl=(M[k]'hlt).bs.length:=⟨_,rfl⟩;rw[<- hq]at htk hub;rw[<- hcl2]at htk hb hc;rw[<- hq];have HT:=qqH htk;clear htk hcc hv hq hcl2;go_wp2_with fail;go_roundw
   case rel=>exact⟨k+1,by omega,by go_num,by rw[HT.out];go_num,by first|rfl|trivial⟩
   case measure=>simp[intOf];omega
  ·obtain rfl:k=M.length:=by omega
   go_wp2_with fail;go_ret;refine ⟨?_,Mods.refl _ _⟩;rw[take_length];rfl
end
section
open Go.RowKit Go.Sort
def eP(v:Value)(l:List EntL):HF:=bK 185 4 v l.length (l.flatMap cg)
def pZ(v:Value)(l:List EntL):Prop:=et 4 v l.length (l.flatMap cg)
theorem gJ(l:List EntL):(l.flatMap cg).length=l.length*4:=by
 induction l with
 | nil=>rfl
 | cons a r ih=>rw[flatMap_cons,length_append,ih];simp[cg];omega
theorem qa:∀(es:List EntL) (t:Nat) (_:t<es.length*4),(es.flatMap cg)[t]?=some ((cg es.toArray[t / 4]!)[t%4]!)
 | [],t,h=>by simp at h
 | x::r,t,h=>by
  rw[flatMap_cons]
  by_cases h4:t<4
  ·rw[getElem?_append_left (by simpa[cg]using h4)]
   have e1:t / 4=0:=by omega
   have e2:t%4=t:=by omega
   rw[e1,e2]
   have:(x::r).toArray[0]! = x := by simp
   rw[this]
   rcases(show t=0\/t=1\/t=2\/t=3 by omega)with rfl|rfl|rfl|rfl<;>rfl
  ·rw[getElem?_append_right (by simp[cg];omega)]
   have hl:(cg x).length=4:=rfl
   rw[hl,qa r (t-4) (by simp at h;omega)]
   have e1:t / 4=(t-4) / 4+1:=by omega
   have e2:t%4=(t-4)%4:=by omega
   rw[e1,e2]
   have hi:(t-4) / 4<r.length:=by simp at h;omega
   have:(x::r).toArray[(t-4) / 4+1]! = r.toArray[(t-4) / 4]! := by
    rw[getElem!_pos _ _ (by simp;omega),getElem!_pos _ _ (by simpa using hi)];simp
   rw[this]
theorem tR(es:List EntL):flatK cg 4 es.toArray=(es.flatMap cg).toArray:=by
 apply Array.ext_getElem?;intro t;by_cases h:t<es.length*4
 ·have h1:=qa es t h;have h2:(es.flatMap cg).toArray[t]?=some ((cg es.toArray[t / 4]!)[t%4]!):=by simpa using h1
  rw[h2];have hs:t<(flatK cg 4 es.toArray).size:=by simpa using h
  rw[Array.getElem?_eq_getElem hs,<- getElem!_pos (flatK cg 4 es.toArray) t hs,get_flatK _ _ _ _ (by simpa using h)]
 ·rw[Array.getElem?_eq_none (by simp;omega),Array.getElem?_eq_none (by rw[size_toArray,gJ];omega)]
theorem Ey(l:List EntL):∀u∈l.flatMap cg,u.oneCell'=true:=fun u hu=>by
 obtain⟨x,-,hx⟩:=mem_flatMap.1 hu
 simp only[cg,mem_cons,not_mem_nil,or_false]at hx
 rcases hx with rfl|rfl|rfl|rfl<;>rfl
def Cy(es es':List EntL):Prop:=es'.Perm es/\∀i j,i<j->∀(hj:j<es'.length) (hi:i<es'.length),bH es'[j].p es'[i].p=false
theorem DZ{F G:HF}{A W:World}{v:Value}{es:List EntL}(h:Turns F (eP v es++G) A W)(hok:pZ v es)(hne:es≠[])(hl:es.length<1000000):
  ∃g cap,v=.slice (some ⟨g,0,none⟩) es.length cap/\Calls Tryz.prog 86 #[.slice (some ⟨g,0,none⟩) es.length cap,.func (.func 87) #[] #[]] W (fun e w'=>e=.returned (.tuple #[])/\∃es',Cy es es'/\pZ v es'/\Turns F (eP v es'++G) A w'):=by
 have hown:=aR h.sat.left hok;rcases hown.2 with⟨-,h0⟩|⟨g,cap,cur,rfl,-,hg,h1,h2,h3,h4⟩
 ·exact absurd (eq_nil_of_length_eq_zero h0) hne
 ·refine⟨g,cap,rfl,?_⟩;have eg:∀args w,(callFunc 87 args).run Tryz.prog w=.ok (.enter 87 args) w:=enters_of Tryz.func87 (by kernel_rfl) rfl
  have hH:HoldsK cg 4 W g 0 es.toArray:=by
   unfold HoldsK;rw[tR];intro j hj;have hj':j<(es.flatMap cg).length:=by simpa using hj
   refine⟨?_,bc hg _⟩;rw[Nat.zero_add];refine aa hg j ?_;rw[<- Array.getElem?_toList];have e1:(cur.toList.take (es.length*4))[j]?=cur.toList[j]?:=by rw[getElem?_take,if_pos (by rw[gJ]at hj';omega)]
   rw[<- e1,h4,getElem?_eq_getElem hj'];congr 1;rw[getElem!_pos _ _ (by simpa using hj)];simp
  have hcon:=AnyQ.slices_SortFunc K8 4 Tryz.isAgg185 Tryz.sizeOf185 cg (fun _=>rfl) (fun x v hv=>by simp[cg]at hv;rcases hv with rfl|rfl|rfl|rfl<;>rfl) o9 Lw 87 #[] g 0 cap es.toArray W eg (Kb g 0 es.toArray.size W) hH (ae hg) (by simp;omega);have hsz:es.toArray.size=es.length:=by simp
  rw[hsz]at hcon;change Calls Tryz.prog 86 _ _ _ at hcon;refine hcon.mono ?_;rintro e w' ⟨rfl,d',n,os,hp,hs,rfl⟩;have hd':d'.size=es.length:=by rw[hp.1];simp
  have hperm:d'.toList.Perm es:=by
   have:=hp.2.2;rw[Array.extract_eq_self_of_le (by omega)]at this;rw[Array.extract_eq_self_of_le (by simp)]at this;simpa using this
  refine⟨rfl,d'.toList,⟨hperm,fun i j hij hj hi=>?_⟩,?_,?_⟩
  ·have:=hs i j (Nat.zero_le _) hij (by rw[<- hd'];simpa using hj);rw[Ex]at this;rw[getElem!_pos d' j (by simpa using hj),getElem!_pos d' i (by simpa using hi)]at this;simpa using this
  ·exact⟨by rw[gJ],fun hn=>by simp[Value.ownBlock]at hn⟩
  ·have hfl:flatK cg 4 d'=(d'.toList.flatMap cg).toArray:=by
    have:=tR d'.toList;simpa using this
   have hdl:d'.toList.length=es.length:=by simpa using hd'
   have hgl:=ae hg
   have hW:(sortWorldK cg 4 W g 0 n d' os).heap[g]?=some (.cells (putCells id 0 (flatK cg 4 d') cur) 185 (0,0)):=by
    unfold sortWorldK;rw[heap_grow_old _ _ (by unfold putRowK;rw[size_putRow];exact hgl)];unfold putRowK putRow mapBlock;show((W.heap.modify g (onCells (putCells id 0 (flatK cg 4 d')))))[g]?=_;rw[Array.getElem?_modify,if_pos rfl,hg];rfl
   have hM:Mods (fun k=>k=g) W (sortWorldK cg 4 W g 0 n d' os):=by
    refine⟨rfl,rfl,rfl,?_,fun k hk hne=>?_⟩
    ·unfold sortWorldK;rw[Go.Sort.size_grow];unfold putRowK;rw[size_putRow];simp
    ·unfold sortWorldK;rw[heap_grow_old _ _ (by unfold putRowK;rw[size_putRow];exact hk)];unfold putRowK putRow mapBlock;show((W.heap.modify g (onCells (putCells id 0 (flatK cg 4 d')))))[k]?=_;rw[Array.getElem?_modify,if_neg (fun e=>hne e.symm)]
   have hpc:(putCells id 0 (flatK cg 4 d') cur).toList.take (es.length*4)=d'.toList.flatMap cg:=by
    apply ext_getElem?;intro t;rw[getElem?_take];split
    ·rename_i ht;rw[Array.getElem?_toList];unfold putCells;rw[Array.getElem?_mapIdx];have htc:t<cur.size:=by rw[h3];omega
     rw[Array.getElem?_eq_getElem htc,Option.map_some,if_pos ⟨Nat.zero_le _,by rw[size_flatK];omega⟩,Nat.sub_zero];have ht2:t<(d'.toList.flatMap cg).length:=by rw[gJ,hdl];exact ht
     rw[getElem?_eq_getElem ht2,hfl,getElem!_pos _ _ (by simpa using ht2)];simp
    ·rename_i ht;rw[getElem?_eq_none (by rw[gJ,hdl];omega)]
   have hrow:eP (.slice (some ⟨g,0,none⟩) es.length cap) es++G=(g,_)::G:=rfl;rw[hrow]at h;have hrow2:eP (.slice (some ⟨g,0,none⟩) es.length cap) d'.toList++G=(g,fun o=>∃cap2 cur2,Value.slice (some ⟨g,0,none⟩) es.length cap=.slice (some ⟨g,0,none⟩) d'.toList.length cap2/\o=.cells cur2 185 (0,0)/\d'.toList.length<=cap2/\cap2<=maxLen/\cur2.size=cap2*4/\cur2.toList.take (d'.toList.length*4)=d'.toList.flatMap cg)::G:=rfl;rw[hrow2];exact h.put hM hW ⟨cap,_,by rw[hdl],rfl,by rw[hdl];exact h1,h2,by unfold putCells;rw[Array.size_mapIdx];exact h3,by rw[hdl];exact hpc⟩
end
section
open Go.RowKit Go.Maps
theorem Turns.pin{F G:HF}{a0 w:World}{g:Nat}{φ:Obj->Prop}(h:Turns F ((g,φ)::G) a0 w):∃o,φ o/\Turns F ((g,Is o)::G) a0 w:=by
 obtain⟨o,ho,hφ⟩:=h.sat.head
 exact⟨o,hφ,h.mods,⟨h.sat.nodup,fun p hp=>by
  rcases mem_cons.1 hp with rfl|hp
  ·exact⟨o,ho,rfl⟩
  ·exact h.sat.sat p (mem_cons_of_mem _ hp)⟩,h.fresh⟩
theorem Turns.Qo{F G:HF}{a0 w:World}{g:Nat}{φ:Obj->Prop}{o:Obj}(h:Turns F ((g,Is o)::G) a0 w)(ho:φ o):Turns F ((g,φ)::G) a0 w :=
 ⟨h.mods,⟨h.sat.nodup,fun p hp=>by
  rcases mem_cons.1 hp with rfl|hp
  ·exact⟨o,h.sat.Q5,ho⟩
  ·exact h.sat.sat p (mem_cons_of_mem _ hp)⟩,h.fresh⟩
theorem pw{P:Program}{w a0:World}{o:Oper}{a:Act}{K:Act->World->Prop}{Q:Exit->Act->World->Prop}{F G:HF}(ty:TypeId)(x y:Operand)(ho:o.op=.store ty x y)(e:TypeId)(size n g cap:Nat)(xs:List Value)(hT:Turns F (bK e size (.slice (some ⟨g,0,none⟩) n cap) n xs++G) a0 w)(hok:et size (.slice (some ⟨g,0,none⟩) n cap) n xs)(i:Nat)(hi:i<n*size)(u:Value)(hx:a.eval x=.pointer (some ⟨g,i,none⟩))(hy:a.eval y=u)(hsz:(P.info? ty).map (·.size)=some 1)(h1:u.oneCell'=true)(hvc:u.cells=#[u])(hk:∀w',et size (.slice (some ⟨g,0,none⟩) n cap) n (xs.set i u)->Turns F (bK e size (.slice (some ⟨g,0,none⟩) n cap) n (xs.set i u)++G) a0 w'->K (a.put o.dst undef) w'):o.wp P a w K Q:=by
 have hT':Turns F ((g,fun o=>∃cap' cur,(.slice (some ⟨g,0,none⟩) n cap:Value)=.slice (some ⟨g,0,none⟩) n cap'/\o=.cells cur e (0,0)/\n<=cap'/\cap'<=maxLen/\cur.size=cap'*size/\cur.toList.take (n*size)=xs)::G) a0 w:=hT;obtain⟨o',⟨cap',cur,hv,rfl,h3,h4,h5,h6⟩,hp⟩:=hT'.pin;have hcs:n*size<=cur.size:=by rw[h5];exact Nat.mul_le_mul_right _ h3
 refine bb ty x y ho g i cur e u hp hx hy (by omega) hsz h1 hvc (fun w' hT2=>hk w' ⟨by rw[length_set];exact hok.1,hok.2⟩ ?_);exact hT2.Qo ⟨cap',_,hv,rfl,h3,h4,by simpa using h5,by rw[Array.toList_setIfInBounds,take_set,h6]⟩
def eY(v:Value)(l:List EntL):HF:=bK 189 4 v l.length (l.flatMap cg)
def oe(v:Value)(l:List EntL):Prop:=et 4 v l.length (l.flatMap cg)
theorem IM:(Tryz.prog.info? 189).map (fun i=>(i.zero,i.size,i.bytes))=some (some (.agg #[str [],.int .i64 0,.int .i64 0,.int .i64 0]),4,40):=by kernel_rfl
theorem sg{o:Oper}{a:Act}{w a0:World}{K:Act->World->Prop}{Q:Exit->Act->World->Prop}{F G:HF}(s x:Operand)(hop:o.op=.call { callee:=.builtin .append,args:=#[s,x],argTypes:=#[105,105] })(v:Value)(l:List EntL)(hs:a.eval s=v)(hT:Turns F (eY v l++G) a0 w)(hok:oe v l)(nb:Nat)(hx:a.eval x=.slice (some ⟨nb,0,none⟩) 1 1)(r:EntL)(hc:w.heap[nb]?=some (.cells (cg r).toArray 189 (0,0)))(hb:l.length<=1000000)(hk:∀v' w',oe v' (l++[r])->Turns F (eY v' (l++[r])++G) a0 w'->K (a.put o.dst v') w'):o.wp Tryz.prog a w K Q:=by
 obtain⟨i0,hi0,hz1,hz2,hz3⟩:=info_parts IM;refine cV s x 105 189 i0 (.agg #[str [],.int .i64 0,.int .i64 0,.int .i64 0]) 4 40 hop Tryz.underlying105 hi0 hz1 hz2 hz3 rfl (by decide) v l.length (l.flatMap cg) hs hT hok (some ⟨nb,0,none⟩) 1 1 hx (cg r) rfl (fun _=>⟨_,rfl,fun j u hu=>?_⟩) (fun u hu=>Ey [r] u (by simpa using hu)) (by unfold maxLen;omega) (by omega) (fun v' w' h1 h2 h3=>?_)
 ·rw[Addr.add_lit];rw[show(0+j)=j by omega];exact aa hc j (by rw[getElem?_toArray];exact hu)
 ·have e1:(l++[r]).flatMap cg=l.flatMap cg++cg r:=by simp
  exact hk v' w' (by unfold oe;rw[length_append,e1];exact h1) (by unfold eY;rw[length_append,e1];exact h2)
def eL(es:List EntL)(p:Bs):List EntL:=if es.getLast?.map (·.p)=some p then es else es++[⟨p,0,0,0⟩]
def mQ(es:List EntL)(num size:Int):List EntL:=match es.getLast? with
 | none=>[]
 | some e=>es.dropLast++[⟨e.p,num,size,e.n+1⟩]
def gS(pre:Bs)(es:List EntL)(v:RVer):List EntL:=if pre.isPrefixOf v.path then mQ (eL es v.path) v.num v.cont.length else es
def gK(pre:Bs)(vs:List RVer):List EntL:=vs.foldl (gS pre) []
theorem tQ{pre:Bs}{vs:List RVer}{k:Nat}(h:k<vs.length):gK pre (vs.take (k+1))=gS pre (gK pre (vs.take k)) vs[k]:=by
 unfold gK;rw[QH h,foldl_append];rfl
theorem kG(es:List EntL)(e:EntL)(num size:Int):mQ (es++[e]) num size=es++[⟨e.p,num,size,e.n+1⟩]:=by simp[mQ]
theorem Aw(es:List EntL)(p:Bs):(eL es p).length<=es.length+1:=by unfold eL;split<;>simp
theorem C7(es:List EntL)(n s:Int):(mQ es n s).length=es.length:=by
 unfold mQ
 cases h:es.getLast? with
 | none=>rw[getLast?_eq_none_iff.1 h]
 | some e =>
  have hne:es≠[]:=fun he=>by rw[he]at h;cases h
  have:=length_pos_iff.2 hne;simp only[length_append,length_dropLast,length_singleton];omega
theorem wP(pre:Bs):∀(vs:List RVer),(gK pre vs).length<=vs.length:=fun vs=>by
 suffices h:∀(vs:List RVer) (es:List EntL),(vs.foldl (gS pre) es).length<=es.length+vs.length from by unfold gK;simpa using h vs []
 intro vs
 induction vs with
 | nil=>intro es;simp
 | cons v r ih =>
  intro es
  have h1:=ih (gS pre es v)
  have h2:(gS pre es v).length<=es.length+1:=by
   unfold gS;split
   ·rw[C7];exact Aw _ _
   ·omega
  simp only[foldl_cons,length_cons];omega
theorem Kc{pre:Bs}:∀(vs:List RVer),∀e∈gK pre vs,0<=e.n/\e.n<=vs.length:=fun vs=>by
 suffices h:∀(vs:List RVer) (es:List EntL) (b:Nat),(∀e∈es,0<=e.n/\e.n<=b)->∀e∈vs.foldl (gS pre) es,0<=e.n/\e.n<=(b+vs.length:Nat)from by
  have:=h vs [] 0 (fun e he=>by cases he);unfold gK;simpa using this
 intro vs;induction vs with
 | nil=>intro es b h e he;have:=h e he;simpa using this
 | cons v r ih =>
  intro es b h e he
  have h2:∀e∈gS pre es v,0<=e.n/\e.n<=(b+1:Nat):=by
   intro e he;unfold gS at he;split at he
   ·have h3:∀e∈eL es v.path,0<=e.n/\e.n<=b:=by
     intro e he;unfold eL at he;split at he
     ·exact h e he
     ·rcases mem_append.1 he with he|he
      ·exact h e he
      ·obtain rfl:=mem_singleton.1 he;simp
    unfold mQ at he
    cases hl:(eL es v.path).getLast? with
    | none=>rw[hl]at he;cases he
    | some x =>
     rw[hl]at he;rcases mem_append.1 he with he|he
     ·have:=h3 e ((dropLast_sublist _).mem he);omega
     ·obtain rfl:=mem_singleton.1 he;have:=h3 x (mem_of_getLast? hl);simp only;omega
   ·have:=h e he;omega
  have:=ih _ (b+1) h2 e he;simp only[length_cons];omega
theorem Ax(pk:Bs)(n:Nat):((ByteArray.mk pk.toArray).extract 0 n).toList=pk.take n:=by
 rw[Lib.toList_data];simp[ByteArray.extract,ByteArray.copySlice]
def wj(R:RefL)(pre:Bs)(w:World)(e:Ending)(w':World):Prop :=
 (R.closed=true/\e=.returned (.tuple #[.slice none 0 0,.int .i64 9])/\aQ w w') \/
 (R.closed=false/\∃v,e=.returned (.tuple #[v,.int .i64 0])/\oe v (gK pre R.vs)/\Turns [] (eY v (gK pre R.vs)) w w')
theorem Bh{pre l:Bs}(_:pre.length<=l.length):pre.isPrefixOf l=decide (l.take pre.length=pre):=by
 rw[Bool.eq_iff_iff,decide_eq_true_eq,isPrefixOf_iff_prefix,prefix_iff_eq_take];exact eq_comm
theorem Gk{pre l:Bs}(h:l.length<pre.length):pre.isPrefixOf l=false:=by
 rw[Bool.eq_false_iff];intro h2;have:=(isPrefixOf_iff_prefix.1 h2).length_le;omega
theorem qm{w:World}{v:Value}{es:List EntL}(hs:Sat w (eY v es))(h:oe v es):∃sl cap,v=.slice sl es.length cap/\es.length<=cap/\cap<=9223372036854775807/\(es≠[]->∃g,sl=some ⟨g,0,none⟩/\g<w.heap.size/\∀i (hi:i<es.length),w.cell? ⟨g,i*4,none⟩=some (str es[i].p)/\w.cell? ⟨g,i*4+1,none⟩=some (.int .i64 es[i].latest)/\w.cell? ⟨g,i*4+2,none⟩=some (.int .i64 es[i].size)/\w.cell? ⟨g,i*4+3,none⟩=some (.int .i64 es[i].n)):=by
 obtain⟨hl,hc⟩:=aR hs h;rcases hc with⟨rfl,hn⟩|⟨g,cap,cur,rfl,_,hg,h1,h2,h3,h4⟩
 ·have:es=[]:=length_eq_zero_iff.1 hn;subst this;exact⟨none,0,rfl,Nat.le_refl _,by omega,fun h=>absurd rfl h⟩
 ·refine⟨_,cap,rfl,h1,by unfold maxLen at h2;omega,fun hne=>⟨g,rfl,ae hg,fun i hi=>?_⟩⟩
  have hcell:∀j,j<4->w.cell? ⟨g,i*4+j,none⟩=(es.flatMap cg)[i*4+j]?:=by
   intro j hj
   have e1:(es.flatMap cg)[i*4+j]?=cur[i*4+j]?:=by
    rw[<- h4,getElem?_take,if_pos (by omega),Array.getElem?_toList]
   have e2:i*4+j<cur.size:=by rw[h3];omega
   rw[e1,Array.getElem?_eq_getElem e2];exact aa hg _ (Array.getElem?_eq_getElem e2)
  have hv:∀j,j<4->(es.flatMap cg)[i*4+j]?=some ((cg es[i])[j]!):=by
   intro j hj;rw[qa es (i*4+j) (by omega)];rw[show(i*4+j) / 4=i by omega,show(i*4+j)%4=j by omega];simp[hi]
  refine⟨?_,?_,?_,?_⟩
  ·have:=hcell 0 (by omega);rw[hv 0 (by omega)]at this;exact this
  ·have:=hcell 1 (by omega);rw[hv 1 (by omega)]at this;exact this
  ·have:=hcell 2 (by omega);rw[hv 2 (by omega)]at this;exact this
  ·have:=hcell 3 (by omega);rw[hv 3 (by omega)]at this;exact this
theorem BN(es:List EntL)(e:EntL)(j:Nat)(u:Value):((es++[e]).flatMap cg).set (es.length*4+j) u=es.flatMap cg++(cg e).set j u:=by
 rw[flatMap_append,set_append,if_neg (by rw[gJ];omega),gJ];simp
theorem i9{w a0:World}{o:Oper}{a:Act}{K:Act->World->Prop}{Q:Exit->Act->World->Prop}{F G:HF}(ty:TypeId)(x y:Operand)(ho:o.op=.store ty x y)(z g cap:Nat)(es0:List EntL)(e e':EntL)(hz:es0.length=z)(hT:Turns F (eY (.slice (some ⟨g,0,none⟩) (z+1) cap) (es0++[e])++G) a0 w)(hok:oe (.slice (some ⟨g,0,none⟩) (z+1) cap) (es0++[e]))(j:Nat)(hj:j<4)(u:Value)(hx:a.eval x=.pointer (some ⟨g,z*4+j,none⟩))(hy:a.eval y=u)(hsz:(Tryz.prog.info? ty).map (·.size)=some 1)(h1:u.oneCell'=true)(hvc:u.cells=#[u])(he:cg e'=(cg e).set j u)(hk:∀w',oe (.slice (some ⟨g,0,none⟩) (z+1) cap) (es0++[e'])->Turns F (eY (.slice (some ⟨g,0,none⟩) (z+1) cap) (es0++[e'])++G) a0 w'->K (a.put o.dst undef) w'):o.wp Tryz.prog a w K Q:=by
 have e1:((es0++[e]).flatMap cg).set (z*4+j) u=(es0++[e']).flatMap cg:=by rw[<- hz,BN,<- he];simp
 have e2:(es0++[e]).length=z+1:=by simp[hz]
 have e3:(es0++[e']).length=z+1:=by simp[hz]
 unfold eY oe at *
 rw[e2]at hT hok;rw[e3]at hk;refine pw ty x y ho 189 4 (z+1) g cap _ hT hok (z*4+j) (by omega) u hx hy hsz h1 hvc (fun w' k1 k2=>hk w' ?_ ?_)
 ·rw[<- e1];exact k1
 ·rw[<- e1];exact k2
theorem Jb{w a0:World}{F G:HF}(z g cap:Nat)(es0:List EntL)(e e':EntL)(hz:es0.length=z)(hT:Turns F (eY (.slice (some ⟨g,0,none⟩) (z+1) cap) (es0++[e])++G) a0 w)(hok:oe (.slice (some ⟨g,0,none⟩) (z+1) cap) (es0++[e]))(j:Nat)(_:j<4)(u:Value)(he:cg e'=(cg e).set j u):
  oe (.slice (some ⟨g,0,none⟩) (z+1) cap) (es0++[e'])/\Turns F (eY (.slice (some ⟨g,0,none⟩) (z+1) cap) (es0++[e'])++G) a0 (w.setCell ⟨g,z*4+j,none⟩ u):=by
 have e1:((es0++[e]).flatMap cg).set (z*4+j) u=(es0++[e']).flatMap cg:=by rw[<- hz,BN,<- he];simp
 have e2:(es0++[e]).length=z+1:=by simp[hz]
 have e3:(es0++[e']).length=z+1:=by simp[hz]
 unfold eY oe at *
 rw[e2]at hT hok;rw[e3,<- e1];refine⟨⟨by rw[length_set];exact hok.1,hok.2⟩,?_⟩;have hT':Turns F ((g,fun o=>∃cap' cur,(.slice (some ⟨g,0,none⟩) (z+1) cap:Value)=.slice (some ⟨g,0,none⟩) (z+1) cap'/\o=.cells cur 189 (0,0)/\(z+1)<=cap'/\cap'<=maxLen/\cur.size=cap'*4/\cur.toList.take ((z+1)*4)=(es0++[e]).flatMap cg)::G) a0 w:=hT;obtain⟨o',⟨cap',cur,hv,rfl,h3,h4,h5,h6⟩,hp⟩:=hT'.pin;have hT2:=hp.Qa ((Mods.refl (fun k=>k=g) w).set1 u) (bn hp.sat.Q5 (z*4+j) u);exact hT2.Qo ⟨cap',_,hv,rfl,h3,h4,by simpa using h5,by rw[Array.toList_setIfInBounds,take_set,h6]⟩
def vcO(pk:Bs)(nk:Int)(cv hv:Value):Obj:=.cells #[.string ⟨pk.toArray⟩,.int .i64 nk,cv,hv] 147 (0,0)
theorem jK{w W:World}{vb g z cap:Nat}{pk:Bs}{nk:Int}{cv hv:Value}{es0:List EntL}{e:EntL}{J:HF}(hT:Turns [] ((vb,Is (vcO pk nk cv hv))::(eY (.slice (some ⟨g,0,none⟩) (z+1) cap) (es0++[e])++J)) w W)(hok:oe (.slice (some ⟨g,0,none⟩) (z+1) cap) (es0++[e]))(hz:es0.length=z):
  W.cell? ⟨vb,0,none⟩=some (.string ⟨pk.toArray⟩)/\W.cell? ⟨vb,1,none⟩=some (.int .i64 nk)/\W.cell? ⟨vb,2,none⟩=some cv/\vb<W.heap.size/\g<W.heap.size/\W.cell? ⟨g,z*4,none⟩=some (str e.p)/\W.cell? ⟨g,z*4+3,none⟩=some (.int .i64 e.n)/\z+1<=cap/\cap<=9223372036854775807/\W.frozen? ⟨g,z*4+3,none⟩=false:=by
 have hv:=hT.sat.Q5;obtain⟨sl,cap',e1,e2,e3,e4⟩:=qm hT.sat.tail.left hok;simp only[Value.slice.injEq]at e1;obtain⟨rfl,h5,rfl⟩:=e1;obtain⟨g',hg,hgl,hc⟩:=e4 (by simp);simp only[Option.some.injEq,Addr.mk.injEq,and_true]at hg;subst hg;obtain⟨c0,c1,c2,c3⟩:=hc z (by simp;omega);have hze:(es0++[e])[z]'(by simp;omega)=e:=by subst hz;simp
 rw[hze]at c0 c3;obtain⟨o,ho,cap2,cur,-,rfl,-⟩:=Sat.head (show Sat W ((g,fun o=>∃cap' cur,(.slice (some ⟨g,0,none⟩) (z+1) cap:Value)=.slice (some ⟨g,0,none⟩) (es0++[e]).length cap'/\o=.cells cur 189 (0,0)/\(es0++[e]).length<=cap'/\cap'<=maxLen/\cur.size=cap'*4/\cur.toList.take ((es0++[e]).length*4)=(es0++[e]).flatMap cg)::[])from hT.sat.tail.left);exact⟨aa hv 0 rfl,aa hv 1 rfl,aa hv 2 rfl,ae hv,hgl,c0,c3,by rw[h5];exact e2,e3,bc ho _⟩
theorem Bq(R:RefL)(P:eO)(pre:Bs)(w:World)(h:RefAt R P w):
  Calls Tryz.prog 45 #[.pointer (some ⟨R.blk,0,none⟩),str pre] w (wj R pre w):=by
 have hbl:=ae h.ref.Q5;have hlen:=h.len;have c3:w.cell? ⟨R.blk,3,none⟩=some (.bool R.closed):=aa h.ref.Q5 3 rfl;have HH:=qqH h;clear h;go_enter Tryz.func45,Tryz.ntmps45
 cases hc:R.closed with
 | true =>
  rw[hc]at c3;have HC:=qqH hc;clear hc;go_wp2_with fail;exact bodyPost_ret (results_tmp2 rfl _ _ _) rfl (.inl ⟨HC.out,rfl,Mods.refl _ _⟩)
 | false =>
  rw[hc]at c3;have HC:=qqH hc;clear hc;go_wp2_with fail;go_loopw [6,7] (fun l i wr=>∃(k:Nat) (J:HF),k<=R.vs.length/\i=.int .i64 k/\oe l (gK pre (R.vs.take k))/\Turns [] (eY l (gK pre (R.vs.take k))++J) w wr) (fun _ i _=>R.vs.length-(intOf i).toNat)
  case atStart=>exact⟨0,[],Nat.zero_le _,rfl,⟨rfl,fun _=>⟨rfl,rfl⟩⟩,Turns.refl (Sat.nil w)⟩
  case round =>
   obtain⟨k,J,hk,rfl,hro,hT⟩:=hrel;have hA:=HH.out.same hT.news;obtain⟨sl,cap,e1,e2,e3,hb,hcell⟩:=hA.row;have c0:wr.cell? ⟨R.blk,0,none⟩=some (.slice sl R.vs.length cap):=by rw[<- e1];exact aa hb 0 rfl
   have hbl':=ae hb;by_cases hlt:k<R.vs.length
   ·obtain⟨g,off,hg,hcc⟩:=hcell (by omega);subst hg;obtain⟨h0,h1,h2,h3⟩:=hcc k hlt;obtain⟨csl,ccap,hcv,-,-,-⟩:=hA.cont (getElem_mem hlt);rw[hcv]at h2;have hnx:=tQ (pre:=pre) hlt;have hel:=wP pre (R.vs.take k);have hen:=Kc (pre:=pre) (R.vs.take k);rw[length_take,Nat.min_eq_left hk]at hel hen;obtain⟨es,hes⟩:∃es,es=gK pre (R.vs.take k):=⟨_,rfl⟩;rw[<- hes]at hnx hel hen hro hT;obtain⟨rsl,rcap,hrv,hr2,hr3,hrc⟩:=qm hT.sat.left hro;obtain⟨pk,hpk⟩:∃pk,pk=R.vs[k].path:=⟨_,rfl⟩;obtain⟨nk,hnk⟩:∃nk,nk=R.vs[k].num:=⟨_,rfl⟩;obtain⟨cl,hcl⟩:∃cl,cl=R.vs[k].cont.length:=⟨_,rfl⟩;unfold gS at hnx;rw[<- hpk]at h0 hnx;rw[<- hnk]at h1 hnx;rw[<- hcl]at h2 hnx;have hgl:=World.block_lt_of_cell? wr _ h0;subst hrv;have HX:=Hq5 hnx hro hT hen hrc;clear hcc hcell hA hcv hnx hpk hnk hcl hes hro hT hen hb e1;by_cases hsh:pk.length<pre.length
    ·have hfin:gK pre (R.vs.take (k+1))=es:=by rw[HX.a,Gk hsh];rfl
     have HF:=qqH hfin;clear hfin hrc;go_wp2_with fail;go_roundw
     case rel=>exact⟨k+1,J,by omega,by go_num,by rw[HF.out];exact HX.b,by rw[HF.out];exact HX.c.alloc _⟩
     case measure=>simp[intOf];omega
    ·by_cases hpx:pk.take pre.length=pre
     ·have hpx2:pre.isPrefixOf pk=true:=by rw[Bh (by omega)];simp[hpx]
      have hpq:(((ByteArray.mk pk.toArray).extract 0 pre.length).toList==pre)=true:=by rw[Ax];simp[hpx]
      obtain⟨cv,hcv⟩:∃cv:Value,cv=.slice csl cl ccap:=⟨_,rfl⟩;obtain⟨hv,hhv⟩:∃hv:Value,hv=.int .i64 R.vs[k].held:=⟨_,rfl⟩;have HV:=Hq2 hcv hhv;go_upto_region 9 with(fail);obtain⟨vb,hvb⟩:∃vb,vb=wr.heap.size:=⟨_,rfl⟩;obtain⟨m,hm⟩:∃m,m=es.length:=⟨_,rfl⟩
      have hT1:Turns [] ((vb,Is (vcO pk nk cv hv))::(eY (.slice rsl m rcap) es++J)) w (wr.alloc (.cells #[.string ⟨pk.toArray⟩,.int .i64 nk,.slice csl cl ccap,.int .i64 R.vs[k].held] 147)):=by
       rw[hvb,hm,hcv,hhv];exact HX.c.Q8 _
      have hro1:oe (.slice rsl m rcap) es:=by rw[hm];exact HX.b
      rw[<- hvb,<- hm];rw[<- hm]at hel hr2;clear h0 h1 h2 h3 c0 hrc hgl hvb hbl' hcv hhv;generalize wr.alloc (.cells #[.string ⟨pk.toArray⟩,.int .i64 nk,.slice csl cl ccap,.int .i64 R.vs[k].held] 147)=w1 at hT1 ⊢;obtain⟨rsl',rcap',e1,-,-,hrc⟩:=qm hT1.sat.tail.left hro1;simp only[Value.slice.injEq]at e1;obtain⟨rfl,-,rfl⟩:=e1;have v0:w1.cell? ⟨vb,0,none⟩=some (.string ⟨pk.toArray⟩):=aa hT1.sat.Q5 0 rfl;have hvl:=ae hT1.sat.Q5;have hnx:gK pre (R.vs.take (k+1))=mQ (eL es pk) nk cl:=by rw[HX.a,hpx2];rfl
      have hnn:∀e∈es,0<=e.n/\e.n<=k:=HX.d;have hk100:k<=100000:=by omega
      have H1:=Hq5 hT1 hro1 hnx hnn hm;clear hT1 hro1 hnx hnn hpx2 hpx hpq
      have happ:∀(v':Value) (W:World),oe v' (es++[⟨pk,0,0,0⟩])->Turns [] (eY v' (es++[⟨pk,0,0,0⟩])++((vb,Is (vcO pk nk cv hv))::J)) w W->∃g2 cap2,v'=.slice (some ⟨g2,0,none⟩) (m+1) cap2/\Turns [] ((vb,Is (vcO pk nk cv hv))::(eY (.slice (some ⟨g2,0,none⟩) (m+1) cap2) (es++[⟨pk,0,0,0⟩])++J)) w W:=by
       intro v' W h1 h2;obtain⟨sl2,cap2,e1,e2,e3,e4⟩:=qm h2.sat.left h1;obtain⟨g2,hg2,-⟩:=e4 (by simp);have e5:(es++[(⟨pk,0,0,0⟩:EntL)]).length=m+1:=by simp[H1.w]
       rw[e5,hg2]at e1;subst e1;exact⟨g2,cap2,rfl,h2.to ac⟩
      have HAPP:=qqH happ;clear happ hm;rcases eq_nil_or_concat es with rfl|⟨es0,e,hes⟩
      ·have hm0:m=0:=H1.w;subst hm0;have hfin:gK pre (R.vs.take (k+1))=[]++[⟨pk,nk,cl,0+1⟩]:=by rw[H1.c];rfl
       have HF:=qqH hfin;clear hfin hrc;go_upto_region 10 with(fail);go_quiet (fail);have hT2:=H1.a.drewN nq;have v0:(w1.drewN nq).cell? ⟨vb,0,none⟩=some (.string ⟨pk.toArray⟩):=aa hT2.sat.Q5 0 rfl;have hvl:=ae hT2.sat.Q5;generalize w1.drewN nq=w2 at hT2 v0 hvl ⊢;have H2:=qqH hT2;clear hT2;go_upto_region 12 with((at_builtin;refine ah rfl ?_;refine sg (.tmp 60) (.tmp 64) rfl _ [] rfl ((H2.out.to (H:=eY (.slice rsl 0 rcap) []++((vb,Is (vcO pk nk cv hv))::J)) ac).alloc _) H1.b _ rfl ⟨pk,0,0,0⟩ (aK _ _) (by simp) ?_;intro v2 w3 hok3 hT3;have H3:=Hq2 hok3 (HAPP.out v2 w3 hok3 hT3);clear hok3 hT3));obtain⟨hok3,g3,cap3,rfl,hT3⟩:=H3.out;have HS:=Hq4 hT3 hok3 (show([]:List EntL).length=0 from rfl) (show((0:Int)+1<=9223372036854775807/\(0:Int)<=0) by omega);clear hok3 hT3 v0 H3;go_upto_region 13 with(fail);obtain⟨k0,k1,k2,k3,k4,k5,k6,k7,k8,-⟩:=jK HS.a HS.b HS.c;have hne:=HS.x;have hwn:wrap64 (0+1)=0+1:=by rw[IntWalk.wrap64_in _ (by omega)]
       clear k0 k5 hne
       go_wp2_with (first
        | (refine ah rfl (i9 (G:=(vb,Is (vcO pk nk cv hv))::J) 3 (.tmp 74) (.tmp 72) rfl (0) g3 cap3 [] _ ⟨pk,nk,0,0⟩ HS.c (HS.a.to ac) HS.b 1 (by omega) (.int .i64 nk) rfl rfl (by kernel_rfl) rfl rfl rfl ?_);intro w13 hok13 hT13;have hT13':=hT13.to (H:=(vb,Is (vcO pk nk cv hv))::(eY (.slice (some ⟨g3,0,none⟩) (0+1) cap3) ([]++[⟨pk,nk,0,0⟩])++J)) ac;obtain⟨-,-,m2,m3,m4,-,m6,-,-,-⟩:=jK hT13' hok13 HS.c;rw[HV.a]at m2;have H13:=Hq2 hT13' hok13;clear hok13 hT13 hT13';simp only[Act.put])
        | (refine ah rfl (i9 (G:=(vb,Is (vcO pk nk cv hv))::J) 3 (.tmp 82) (.tmp 80) rfl (0) g3 cap3 [] _ ⟨pk,nk,cl,0⟩ HS.c (H13.a.to ac) H13.z 2 (by omega) (.int .i64 cl) rfl rfl (by kernel_rfl) rfl rfl rfl ?_);intro w14 hok14 hT14;have hT14':=hT14.to (H:=(vb,Is (vcO pk nk cv hv))::(eY (.slice (some ⟨g3,0,none⟩) (0+1) cap3) ([]++[⟨pk,nk,cl,0⟩])++J)) ac;obtain⟨-,-,p2,p3,p4,-,p6,-,-,p7⟩:=jK hT14' hok14 HS.c;have H14:=Hq2 hT14' hok14;clear hok14 hT14 hT14' p2;simp only[Act.put])
        | (refine ah rfl (i9 (G:=(vb,Is (vcO pk nk cv hv))::J) 3 (.tmp 91) (.tmp 89) rfl (0) g3 cap3 [] _ ⟨pk,nk,cl,0+1⟩ HS.c (H14.a.to ac) H14.z 3 (by omega) (.int .i64 (0+1)) rfl rfl (by kernel_rfl) rfl rfl rfl ?_);intro w15 hok15 hT15;have H15:=Hq2 (hT15.to (H:=eY (.slice (some ⟨g3,0,none⟩) (0+1) cap3) ([]++[⟨pk,nk,cl,0+1⟩])++((vb,Is (vcO pk nk cv hv))::J)) ac) hok15;clear hok15 hT15;simp only[Act.put]))
       go_roundw
       case rel=>exact⟨k+1,_,by omega,by go_num,by rw[HF.out];exact H15.z,by rw[HF.out];exact H15.a⟩
       case measure=>simp[intOf];omega
      ·obtain⟨z,hz⟩:∃z,z=es0.length:=⟨_,rfl⟩;rw[concat_eq_append]at hes;subst hes;have hmz:m=z+1:=by rw[H1.w,hz];simp
       obtain⟨g2,hg2,hgl2,hc⟩:=hrc (by simp);subst hg2;obtain⟨r0,r1,r2,r3⟩:=hc z (by simp;omega);have hze:(es0++[e])[z]'(by simp;omega)=e:=by subst hz;simp
       rw[hze]at r0 r3;have hne:0<=e.n/\e.n<=k:=H1.d e (by simp);obtain⟨ep,el,es_,en⟩:=e;have HZ:=Hq2 hz.symm hne;clear hc r1 r2 r3 hze hz hne;have hgl:=hgl2;by_cases hep:ep=pk
       ·subst hep;subst hmz
        have hfin:gK pre (R.vs.take (k+1))=es0++[⟨ep,nk,cl,en+1⟩]:=by
         rw[H1.c];have:eL (es0++[(⟨ep,el,es_,en⟩:EntL)]) ep=es0++[⟨ep,el,es_,en⟩]:=by unfold eL;rw[if_pos (by simp)]
         rw[this,kG]
        have HF:=qqH hfin;have hw1:wrap64 ((z:Int)+1-1)=(z:Int):=by rw[IntWalk.wrap64_in _ (by omega)];omega
        have hz0:((z:Int)+1==0)=false:=by simp;omega
        clear hfin;go_upto_region 10 with(fail);go_quiet (fail);have hT2:=H1.a.drewN nq;have v0:(w1.drewN nq).cell? ⟨vb,0,none⟩=some (.string ⟨ep.toArray⟩):=aa hT2.sat.Q5 0 rfl;have hvl:=ae hT2.sat.Q5;generalize w1.drewN nq=w2 at hT2 v0 hvl ⊢;have H2:=qqH hT2;clear hT2;have hT2':=H2.out;have HS:=Hq4 hT2' H1.b HZ.a (show(en+1<=9223372036854775807/\(0:Int)<=en) by have h9:0<=en/\en<=(k:Int):=HZ.z;omega);clear hT2' r0 v0 hz0;go_upto_region 13 with(fail);obtain⟨k0,k1,k2,k3,k4,k5,k6,k7,k8,-⟩:=jK HS.a HS.b HS.c;have hne:=HS.x;have hwn:wrap64 (en+1)=en+1:=by rw[IntWalk.wrap64_in _ (by omega)]
        clear k0 k5 hne
        go_wp2_with (first
         | (refine ah rfl (i9 (G:=(vb,Is (vcO ep nk cv hv))::J) 3 (.tmp 74) (.tmp 72) rfl (z) g2 rcap es0 _ ⟨ep,nk,es_,en⟩ HS.c (HS.a.to ac) HS.b 1 (by omega) (.int .i64 nk) rfl rfl (by kernel_rfl) rfl rfl rfl ?_);intro w13 hok13 hT13;have hT13':=hT13.to (H:=(vb,Is (vcO ep nk cv hv))::(eY (.slice (some ⟨g2,0,none⟩) (z+1) rcap) (es0++[⟨ep,nk,es_,en⟩])++J)) ac;obtain⟨-,-,m2,m3,m4,-,m6,-,-,-⟩:=jK hT13' hok13 HS.c;rw[HV.a]at m2;have H13:=Hq2 hT13' hok13;clear hok13 hT13 hT13';simp only[Act.put])
         | (refine ah rfl (i9 (G:=(vb,Is (vcO ep nk cv hv))::J) 3 (.tmp 82) (.tmp 80) rfl (z) g2 rcap es0 _ ⟨ep,nk,cl,en⟩ HS.c (H13.a.to ac) H13.z 2 (by omega) (.int .i64 cl) rfl rfl (by kernel_rfl) rfl rfl rfl ?_);intro w14 hok14 hT14;have hT14':=hT14.to (H:=(vb,Is (vcO ep nk cv hv))::(eY (.slice (some ⟨g2,0,none⟩) (z+1) rcap) (es0++[⟨ep,nk,cl,en⟩])++J)) ac;obtain⟨-,-,p2,p3,p4,-,p6,-,-,p7⟩:=jK hT14' hok14 HS.c;have H14:=Hq2 hT14' hok14;clear hok14 hT14 hT14' p2;simp only[Act.put]))
        go_roundw
        case rel=>have HR:=Jb (G:=(vb,Is (vcO ep nk cv hv))::J) (z) g2 rcap es0 ⟨ep,nk,cl,en⟩ ⟨ep,nk,cl,en+1⟩ HS.c (H14.a.to ac) H14.z 3 (by omega) (.int .i64 (en+1)) rfl;exact⟨k+1,_,by omega,by go_num,by rw[HF.out];exact HR.1,by rw[HF.out];exact HR.2⟩
        case measure=>simp[intOf];omega
       ·have hfin:gK pre (R.vs.take (k+1))=es0++[⟨ep,el,es_,en⟩]++[⟨pk,nk,cl,0+1⟩]:=by
         rw[H1.c];have:eL (es0++[(⟨ep,el,es_,en⟩:EntL)]) pk=es0++[⟨ep,el,es_,en⟩]++[⟨pk,0,0,0⟩]:=by unfold eL;rw[if_neg (by simp[hep])]
         rw[this,kG]
        have HF:=qqH hfin;subst hmz;have hw0:wrap64 ((z:Int)+1-1)=(z:Int):=by rw[IntWalk.wrap64_in _ (by omega)];omega
        have hz0:((z:Int)+1==0)=false:=by simp;omega
        have hepq:(ep==pk)=false:=by simp[hep]
        have hel2:(es0++[(⟨ep,el,es_,en⟩:EntL)]).length<=1000000:=by simp;have:=HZ.a;omega
        have HE2:=qqH hel2;obtain⟨esx,hesx⟩:∃esx,esx=es0++[(⟨ep,el,es_,en⟩:EntL)]:=⟨_,rfl⟩;rw[<- hesx]at H1 HAPP HF HE2;clear hfin hel2 hesx;go_upto_region 10 with(fail);go_quiet (fail);have hT2:=H1.a.drewN nq;have v0:(w1.drewN nq).cell? ⟨vb,0,none⟩=some (.string ⟨pk.toArray⟩):=aa hT2.sat.Q5 0 rfl;have hvl:=ae hT2.sat.Q5;generalize w1.drewN nq=w2 at hT2 v0 hvl ⊢;have H2:=qqH hT2;clear hT2;obtain⟨m,hm⟩:∃m,m=z+1:=⟨_,rfl⟩;have e1:(z:Int)+1=(m:Int):=by omega
        rw[<- hm]at H1 HAPP H2 hel hr2;rw[<- hm];simp only[e1];have hw1:wrap64 ((m:Int)+1-1)=(m:Int):=by rw[IntWalk.wrap64_in _ (by omega)];omega
        clear e1 hm hw0 hz0 hepq r0;go_upto_region 12 with((at_builtin;refine ah rfl ?_;refine sg (.tmp 60) (.tmp 64) rfl _ esx rfl ((H2.out.to (H:=eY (.slice (some ⟨g2,0,none⟩) m rcap) esx++((vb,Is (vcO pk nk cv hv))::J)) ac).alloc _) H1.b _ rfl ⟨pk,0,0,0⟩ (aK _ _) (HE2.out) ?_;intro v2 w3 hok3 hT3;have H3:=Hq2 hok3 (HAPP.out v2 w3 hok3 hT3);clear hok3 hT3));obtain⟨hok3,g3,cap3,rfl,hT3⟩:=H3.out;have HS:=Hq4 hT3 hok3 H1.w.symm (show((0:Int)+1<=9223372036854775807/\(0:Int)<=0) by omega);clear hok3 hT3 v0 H3;go_upto_region 13 with(fail);obtain⟨k0,k1,k2,k3,k4,k5,k6,k7,k8,-⟩:=jK HS.a HS.b HS.c;have hne:=HS.x;have hwn:wrap64 (0+1)=0+1:=by rw[IntWalk.wrap64_in _ (by omega)]
        clear k0 k5 hne
        go_wp2_with (first
         | (refine ah rfl (i9 (G:=(vb,Is (vcO pk nk cv hv))::J) 3 (.tmp 74) (.tmp 72) rfl (m) g3 cap3 esx _ ⟨pk,nk,0,0⟩ HS.c (HS.a.to ac) HS.b 1 (by omega) (.int .i64 nk) rfl rfl (by kernel_rfl) rfl rfl rfl ?_);intro w13 hok13 hT13;have hT13':=hT13.to (H:=(vb,Is (vcO pk nk cv hv))::(eY (.slice (some ⟨g3,0,none⟩) (m+1) cap3) (esx++[⟨pk,nk,0,0⟩])++J)) ac;obtain⟨-,-,m2,m3,m4,-,m6,-,-,-⟩:=jK hT13' hok13 HS.c;rw[HV.a]at m2;have H13:=Hq2 hT13' hok13;clear hok13 hT13 hT13';simp only[Act.put])
         | (refine ah rfl (i9 (G:=(vb,Is (vcO pk nk cv hv))::J) 3 (.tmp 82) (.tmp 80) rfl (m) g3 cap3 esx _ ⟨pk,nk,cl,0⟩ HS.c (H13.a.to ac) H13.z 2 (by omega) (.int .i64 cl) rfl rfl (by kernel_rfl) rfl rfl rfl ?_);intro w14 hok14 hT14;have hT14':=hT14.to (H:=(vb,Is (vcO pk nk cv hv))::(eY (.slice (some ⟨g3,0,none⟩) (m+1) cap3) (esx++[⟨pk,nk,cl,0⟩])++J)) ac;obtain⟨-,-,p2,p3,p4,-,p6,-,-,p7⟩:=jK hT14' hok14 HS.c;have H14:=Hq2 hT14' hok14;clear hok14 hT14 hT14' p2;simp only[Act.put]))
        go_roundw
        case rel=>have HR:=Jb (G:=(vb,Is (vcO pk nk cv hv))::J) (m) g3 cap3 esx ⟨pk,nk,cl,0⟩ ⟨pk,nk,cl,0+1⟩ HS.c (H14.a.to ac) H14.z 3 (by omega) (.int .i64 1) rfl;exact⟨k+1,_,by omega,by go_num,by rw[HF.out];exact HR.1,by rw[HF.out];exact HR.2⟩
        case measure=>simp[intOf];omega
     ·have hfin:gK pre (R.vs.take (k+1))=es:=by rw[HX.a,Bh (by omega),decide_eq_false hpx];rfl
      have hpq:(((ByteArray.mk pk.toArray).extract 0 pre.length).toList==pre)=false:=by rw[Ax];simp[hpx]
      have HF:=qqH hfin;clear hfin hrc;go_wp2_with fail;go_roundw
      case rel=>exact⟨k+1,J,by omega,by go_num,by rw[HF.out];exact HX.b,by rw[HF.out];exact HX.c.alloc _⟩
      case measure=>simp[intOf];omega
   ·obtain rfl:k=R.vs.length:=by omega
    clear hcell;rw[take_length]at hro hT;have HX:=Hq2 hro hT;clear hro hT;go_wp2_with fail;exact bodyPost_ret (results_tmp2 rfl _ _ _) rfl (.inr ⟨HC.out,u6,rfl,HX.a,HX.z.drop (fun x=>by simp only[ai];omega)⟩)
def bq(K:List (Bs×Nat×Nat))(q:Nat×Nat):Bs:=((K.find? (fun e=>decide (e.2=q))).map (·.1)).getD []
def cE(S:AS)(V:VerL):Bs:=V.chs.flatMap (bq S.K)
theorem KX{S:AS}(h:ArOk S){c c':Bs}{q:Nat×Nat}(h1:(c,q)∈S.K)(h2:(c',q)∈S.K):c=c' :=
 mJ ((h.kat _ h1).2.Qd h.dat) ((h.kat _ h2).2.Qd h.dat) ((h.kat _ h1).1.symm.trans (h.kat _ h2).1)
theorem pM{S:AS}(h:ArOk S){c:Bs}{q:Nat×Nat}(hq:(c,q)∈S.K):bq S.K q=c:=by
 unfold bq
 cases hf:S.K.find? (fun e=>decide (e.2=q))with
 | none=>rw[find?_eq_none]at hf;exact absurd (by simp) (hf _ hq)
 | some e =>
  have h1:=mem_of_find?_eq_some hf;have h2:e.2=q:=by simpa using find?_some hf
  have h3:(e.1,q)∈S.K:=by rw[<- h2];exact h1
  simpa using KX h h3 hq
theorem qy{S:AS}{l:Bs}{n:Int}{V:VerL}(hf:iq (af S.ps l) n=some V):∃p∈S.ps,p.key=l/\V∈p.g:=by
 have key:∀(l:List VerL),iq l n=some V->V∈l:=by
  intro l;induction l with
  | nil=>intro h;simp[iq]at h
  | cons v r ih =>
   intro h;unfold iq at h;split at h
   ·simp only[Option.some.injEq]at h;subst h;simp
   ·exact mem_cons_of_mem _ (ih h)
 have hm:=key _ hf;unfold af gOf at hm
 cases hg:S.ps.find? (fun p=>decide (p.key=l))with
 | none=>rw[hg]at hm;simp at hm
 | some p=>rw[hg]at hm;exact⟨p,mem_of_find?_eq_some hg,by simpa using find?_some hg,hm⟩
theorem Io{S:AS}(h:ArOk S){p:ba}(hp:p∈S.ps){V:VerL}(hV:V∈p.g){q:Nat×Nat}(hq:q∈V.chs):(bq S.K q,q)∈S.K:=by
 obtain⟨e,he,rfl⟩:=(h.vers p hp V hV).1 q hq;have:=pM h (c:=e.1) (q:=e.2) he;rw[this];exact he
theorem jR{S:AS}(h:ArOk S){p:ba}(hp:p∈S.ps){V:VerL}(hV:V∈p.g):(cE S V).length=V.size:=by
 rw[(h.vers p hp V hV).2]
 have key:∀l:List (Nat×Nat),(∀q∈l,(bq S.K q,q)∈S.K)->(l.flatMap (bq S.K)).length=(l.map (·.2)).sum:=by
  intro l;induction l with
  | nil=>intro _;rfl
  | cons q r ih =>
   intro hq;rw[flatMap_cons,length_append,ih (fun x hx=>hq x (by simp[hx])),map_cons,sum_cons,(h.kat _ (hq q (by simp))).1]
 exact key _ (fun q hq=>Io h hp hV hq)
def jb(S:AS)(l:Bs)(n:Int)(k:Int):Prop :=
 (S.X.closed=true/\k=9)\/(S.X.closed=false/\aq l=false/\k=1)\/(S.X.closed=false/\aq l=true/\iq (af S.ps l) n=none/\k=3)
def iP(S:AS)(l:Bs)(n:Int)(V:VerL):Prop:=S.X.closed=false/\aq l=true/\iq (af S.ps l) n=some V
theorem iW{S:AS}{l:Bs}{n:Int}{w w':World}{e:Ending}(h:zr S.X S.ps l n w e w'):
  aQ w w'/\((∃k,jb S l n k/\e=.returned (.tuple #[.pointer none,ck k]))\/(∃V,iP S l n V/\e=.returned (.tuple #[dH V,.nilIface]))):=by
 obtain⟨he,hs⟩:=h;refine⟨hs,?_⟩
 cases hc:S.X.closed with
 | true=>rw[hc,if_pos rfl]at he;exact .inl ⟨9,.inl ⟨hc,rfl⟩,he⟩
 | false =>
  rw[hc,if_neg (by simp)]at he
  cases hp:aq l with
  | false=>rw[hp,if_neg (by simp)]at he;exact .inl ⟨1,.inr (.inl ⟨hc,hp,rfl⟩),he⟩
  | true =>
   rw[hp,if_pos rfl]at he
   cases hf:iq (af S.ps l) n with
   | none=>rw[hf]at he;exact .inl ⟨3,.inr (.inr ⟨hc,hp,hf,rfl⟩),he⟩
   | some V=>rw[hf]at he;exact .inr ⟨V,⟨hc,hp,hf⟩,he⟩
def JC(S:AS)(l:Bs)(n:Int)(w:World)(e:Ending)(w':World):Prop :=
 (∃k,jb S l n k/\e=.returned (.tuple #[.slice none 0 0,ck k])/\Turns (arF S) (arF S) w w') \/
 (∃V v sp,iP S l n V/\e=.returned (.tuple #[v,.nilIface])/\bOk v (cE S V)/\AreaOk { S.A with spare:=sp }/\Turns (arF S) (aA v (cE S V)++arF { S with A:={ S.A with spare:=sp } }) w w')
theorem xL{S:AS}(hok:ArOk S){p:ba}(hp:p∈S.ps){V:VerL}(hV:V∈p.g){sl:Option Addr}{n cap:Nat}(hcv:V.cv=.slice sl n cap){W:World}(hs:Sat W (aF S.X.pm S.ps S.pc)):W.heap[V.blk]?=some (dt V)/\ak W sl (cR V.chs):=by
 have hps:Sat W (d9 p.val p.g):=Sat.flat (f:=fun p:ba=>d9 p.val p.g) hs.tail hp;have hvf:Sat W (bL V):=Sat.flat (f:=bL) hps.right hV;obtain⟨sl2,cap2,h1,_,_,h4⟩:=fd hvf.tail ((hok.paths.rows p hp).2 V hV);rw[hcv]at h1;simp only[Value.slice.injEq]at h1;obtain⟨rfl,_,_⟩:=h1;exact⟨hvf.Q5,h4⟩
def Ld(S:AS)(V:VerL)(w:World)(out i:Value)(W:World):Prop :=
 ∃(j:Nat) (sp:List (Nat×Nat×Nat)) (J:HF),j<=V.chs.length/\i=.int .i64 j/\bOk out ((V.chs.take j).flatMap (bq S.K))/\AreaOk { S.A with spare:=sp }/\Turns (arF S) (aA out ((V.chs.take j).flatMap (bq S.K))++(arF { S with A:={ S.A with spare:=sp } }++J)) w W
theorem Fa(S:AS)(l:Bs)(n:Int)(b:Nat)(w:World)(h:Sat w (arF S))(hok:ArOk S)(hB:ArB S b)(hb:b<=90000)(_:l.length<=9223372036854775807):
  Calls Tryz.prog 36 #[.pointer (some ⟨S.a,0,none⟩),str l,.int .i64 n] w (JC S l n w):=by
 have HF:=qqH (iV S.a S.X S.ps S.pc l n w h.Q5 (h.tail.right.right.left) hok.paths);have HH:=Hq4 h hok hB hb;clear h hok hB hb;go_enter Tryz.func36,Tryz.ntmps36;go_wp2_with fail;refine HF.out.mono ?_;intro e w1 hp;obtain⟨hs,⟨k,hk,rfl⟩|⟨V,hV,rfl⟩⟩:=iW hp
 ·have HK:=Hq2 hk hs;clear hp hs hk;unfold ck;go_wp2_with fail;go_ret2;refine (.inl ⟨k,HK.a,rfl,(Turns.same HH.a HK.z)⟩)
 ·obtain⟨p,hpm,hpk,hVp⟩:=qy hV.2.2;have hT1:Turns (arF S) (arF S) w w1:=Turns.same HH.a hs;have hps:Sat w1 (d9 p.val p.g):=Sat.flat (f:=fun p:ba=>d9 p.val p.g) (hT1.sat.tail.right.right.left).tail hpm;have hvf:Sat w1 (bL V):=Sat.flat (f:=bL) hps.right hVp;have hpo:bP V.cv V.chs:=(HH.b.paths.rows p hpm).2 V hVp;obtain⟨sl,cap,hcv,e2,e3,hcell⟩:=fd hvf.tail hpo;have v2:w1.cell? ⟨V.blk,2,none⟩=some (.slice sl V.chs.length cap):=by rw[<- hcv];exact aa hvf.Q5 2 rfl
  have hvl:=ae hvf.Q5
  have hcl:V.chs.length<=90000:=by
   have h1:=((HH.c.vers p hpm).2.2 V hVp).2.1;have:=HH.x;omega
  have HV:=Hq7 hV hpm hVp hT1 hcell hpo hcv;clear hp hs hV hpm hpk hVp hT1 hps hvf hpo hcv hcell;unfold dH;go_wp2_with fail;go_loopw [10,30] (fun out i wr=>Ld S V w out i wr) (fun _ i _=>V.chs.length-(intOf i).toNat)
  case atStart=>exact⟨0,S.A.spare,[],Nat.zero_le _,rfl,fi,HH.b.area,by rw[append_nil];exact HV.d⟩
  case round =>
   obtain⟨j,sp,J,hj,rfl,hbo,hAo,hT⟩:=hrel;have HR:=Hq3 hbo hAo hT;clear hbo hAo hT;by_cases hlt:j<V.chs.length
   ·obtain⟨hver,hcells⟩:=xL HH.b HV.b HV.c HV.u (W:=wr) (HR.y.sat.sub (fun x=>by simp only[arF,ao,ai]<;>omega));obtain⟨g,off,hg,hcell⟩:=hcells (by rw[eS];omega);subst hg;obtain⟨hc1,hc2⟩:=mY hcell hlt;obtain⟨q,hq⟩:∃q,q=V.chs[j]:=⟨_,rfl⟩;rw[<- hq]at hc1 hc2;have hbK:=Io HH.b HV.b HV.c (q:=q) (by rw[hq];exact getElem_mem hlt);obtain⟨bo,hbo⟩:∃bo,bo=bq S.K q:=⟨_,rfl⟩;rw[<- hbo]at hbK;have hq2:q.2=bo.length:=(HH.b.kat _ hbK).1;have hbody:=(HH.b.kat _ hbK).2.Qd HH.b.dat
    have htk:(V.chs.take (j+1)).flatMap (bq S.K)=(V.chs.take j).flatMap (bq S.K)++bo:=by
     rw[QH hlt,flatMap_append,hbo,hq];simp
    have hlen:((V.chs.take j).flatMap (bq S.K)).length+bo.length<=137438953472:=by
     have h1:((V.chs.take (j+1)).flatMap (bq S.K)).length<=(cE S V).length:=by
      unfold cE;conv=>rhs;rw[<- take_append_drop (j+1) V.chs,flatMap_append,length_append]
      omega
     rw[jR HH.b HV.b HV.c,htk,length_append]at h1;have h2:=((HH.c.vers p HV.b).2.2 V HV.c).2.2.1;have:=HH.x;omega
    obtain⟨B8,hB8⟩:∃B8,B8=wr.heap.size:=⟨_,rfl⟩;obtain⟨bs,hbs⟩:∃bs,bs=(V.chs.take j).flatMap (bq S.K):=⟨_,rfl⟩;rw[<- hbs]at htk hlen HR
    have hT8:Turns (arF S) (ap S.X.ab S.X.d { S.A with spare:=sp }++((B8,Is (aB q))::(aA u10 bs++((S.a,Is (aJ S.X))::(aD S.X.d S.L++(aF S.X.pm S.ps S.pc++(bU S.X.tm S.ts S.tc++(aP S.X.cm S.cs S.cc++J)))))))) w (wr.alloc (aB q)):=by
     rw[hB8];exact(HR.y.Q8 (aB q)).to (by unfold arF;exact ac)
    have HLd:=qqH (lX S.a S.X S.X.ab S.X.d rfl { S.A with spare:=sp } S.L q.1 bo _ (wr.alloc (aB q)) hT8.sat (fun x=>by simp only[ao,ai];omega) HH.b.dev HR.b HH.b.fits HH.b.nmax hbody);rw[<- hq2]at HLd;have HQ:=Hq6 hbK hq2 htk hlen hT8 hB8;clear hver hcells hcell hq hbK hbo hq2 hbody htk hlen hT8 hB8 hbs;go_wp2_with fail;refine HLd.out.mono ?_;rintro e w4 ⟨av,cv,sp2,rfl,hok4,hAo4,hT4⟩;have hT5:=HQ.e.trans hT4;obtain⟨av',cv',hev,-,-,hav,-⟩:=aL (cZ hT4.sat.left hok4);simp only[Value.slice.injEq,true_and]at hev;obtain⟨rfl,rfl⟩:=hev;rw[<- HQ.v];have hT6:Turns (arF S) (aA u10 bs++(arF { S with A:={ S.A with spare:=sp2 } }++((B8,Is (aB q))::(aA (.slice av bo.length cv) bo++J)))) w w4:=hT5.to (by unfold arF;exact ac);have H4:=Hq3 hAo4 hT6 hav;clear hok4 hAo4 hT4 hT5 hav hT6;go_wp2_with ((refine ah rfl (fu (.tmp 43) (.tmp 44) rfl u10 bs rfl H4.b HR.a av bo.length cv rfl bo rfl H4.y HQ.d ?_);intro av2 cv2 w6 hok6 hT6 _));go_roundw
    case rel =>
     refine⟨j+1,sp2,(B8,Is (aB q))::(aA (.slice av bo.length cv) bo++J),by omega,by go_num,?_,H4.a,?_⟩
     ·rw[HQ.c];rw[length_append]at hok6;exact hok6
     ·rw[HQ.c];rw[length_append]at hT6;exact hT6
    case measure=>simp[intOf];omega
   ·obtain rfl:j=V.chs.length:=by omega
    rw[take_length]at HR;go_wp2_with fail;go_ret2;refine (.inr ⟨V,u10,sp,HV.a,rfl,HR.a,HR.b,?_⟩);exact HR.y.drop (fun x=>by unfold cE;simp only[ai];omega)
theorem Kj:(Tryz.prog.info? 185).map (fun i=>(i.zero,i.size,i.bytes))=some (some (.agg #[str [],.int .i64 0,.int .i64 0,.int .i64 0]),4,40):=by kernel_rfl
theorem zg{o:Oper}{a:Act}{w a0:World}{K:Act->World->Prop}{Q:Exit->Act->World->Prop}{F G:HF}(s x:Operand)(hop:o.op=.call { callee:=.builtin .append,args:=#[s,x],argTypes:=#[102,102] })(v:Value)(l:List EntL)(hs:a.eval s=v)(hT:Turns F (eP v l++G) a0 w)(hok:pZ v l)(nb:Nat)(hx:a.eval x=.slice (some ⟨nb,0,none⟩) 1 1)(r:EntL)(hc:w.heap[nb]?=some (.cells (cg r).toArray 185 (0,0)))(hb:l.length<=1000000)(hk:∀v' w',pZ v' (l++[r])->Turns F (eP v' (l++[r])++G) a0 w'->K (a.put o.dst v') w'):o.wp Tryz.prog a w K Q:=by
 obtain⟨i0,hi0,hz1,hz2,hz3⟩:=info_parts Kj;refine cV s x 102 185 i0 (.agg #[str [],.int .i64 0,.int .i64 0,.int .i64 0]) 4 40 hop Tryz.underlying102 hi0 hz1 hz2 hz3 rfl (by decide) v l.length (l.flatMap cg) hs hT hok (some ⟨nb,0,none⟩) 1 1 hx (cg r) rfl (fun _=>⟨_,rfl,fun j u hu=>?_⟩) (fun u hu=>Ey [r] u (by simpa using hu)) (by unfold maxLen;omega) (by omega) (fun v' w' h1 h2 h3=>?_)
 ·rw[Addr.add_lit,Nat.zero_add];exact aa hc j (by simpa using hu)
 ·exact hk v' w' (by unfold pZ;rw[length_append,flatMap_append];simpa using h1) (by unfold eP;rw[length_append,flatMap_append];simpa using h2)
def IA(nb:Nat)(key:Bs)(U:VerL)(n:Nat):Nat×(Obj->Prop):=(nb,Is (.cells (cg ⟨key,U.num,U.size,n⟩).toArray 185 (0,0)))
def AZ(l:List VerL):VerL:=(l.getLast?).getD ⟨0,0,0,.slice none 0 0,[],0⟩
def pEnt(p:ba):EntL:=⟨p.key,(AZ p.g).num,(AZ p.g).size,p.g.length⟩
def fa(pre:Bs)(l:List ba):List EntL:=(l.filter (fun p=>pre.isPrefixOf p.key)).map pEnt
def G9(S:AS)(pre:Bs)(w:World)(e:Ending)(w':World):Prop :=
 (S.X.closed=true/\e=.returned (.tuple #[.slice none 0 0,ck 9])/\Turns (arF S) (arF S) w w') \/
 (S.X.closed=false/\∃v es,e=.returned (.tuple #[v,.nilIface])/\Cy (fa pre S.ps) es/\pZ v es/\Turns (arF S) (eP v es++arF S) w w')
def xX(S:AS)(pre:Bs)(w:World)(r:Nat)(v:Value)(W:World):Prop :=
 ∃done todo J,(done++todo).Perm S.ps/\pZ v (fa pre done)/\Turns (arF S) (eP v (fa pre done)++((r,Is (dB S.X.pm S.pc (done.map aN)))::(arF S++J))) w W
def ua(r n:Nat)(w:World):Nat:=match w.heap[r]? with
 | some (.mapIter _ _ d _)=>n-d.size
 | _=>0
theorem Cn(S:AS)(pre:Bs)(b:Nat)(w:World)(h:Sat w (arF S))(hok:ArOk S)(hB:ArB S b)(hb:b<=90000):
  Calls Tryz.prog 44 #[.pointer (some ⟨S.a,0,none⟩),str pre] w (G9 S pre w):=by
 have ha:=h.Q5;have hal:=ae ha
 cases hc:S.X.closed with
 | true =>
  have a10:w.cell? ⟨S.a,10,none⟩=some (.bool true):=by rw[<- hc];exact aa ha 10 rfl
  have HC:=Hq2 hc h;clear h hok hB hb ha hc;go_enter Tryz.func44,Tryz.ntmps44;go_wp2_with fail;exact bodyPost_ret (results_tmp2 rfl _ _ _) rfl (.inl ⟨HC.a,rfl,Turns.refl HC.z⟩)
 | false =>
  have a10:w.cell? ⟨S.a,10,none⟩=some (.bool false):=by rw[<- hc];exact aa ha 10 rfl
  have a0:w.cell? ⟨S.a,0,none⟩=some (.map (some S.X.pm)):=aa ha 0 rfl;have hpm:=h.Q7 (b:=S.X.pm) (o:=aO str (S.ps.map aN) S.pc) (by simp[arF,aF]);obtain⟨r,hr⟩:∃r,r=w.heap.size:=⟨_,rfl⟩
  have hrel0:xX S pre w r (.slice none 0 0) (w.alloc (dB S.X.pm S.pc ([]:List (Ent Bs)))):=by
   refine⟨[],S.ps,[],Perm.refl _,⟨rfl,fun _=>⟨rfl,rfl⟩⟩,?_⟩;rw[hr,append_nil];exact(Turns.refl h).Q8 _
  have HH:=Hq8 h hok hB hb hc hpm hr hrel0;clear h hok hB hb ha hc hpm hr hrel0;go_enter Tryz.func44,Tryz.ntmps44;go_wp2_with ((refine ah rfl (E4 (.tmp 19) rfl Tryz.underlying51 HH.f rfl ?_);rw[<- HH.g]));go_frame;go_loopw [6] (fun v wr=>xX S pre w r v wr) (fun _ wr=>ua r S.ps.length wr)
  case atStart=>exact HH.t
  case round =>
   obtain⟨done,todo,J,hperm,hio,hT⟩:=hrel;have hT2:=hT.to (H:=(r,Is (dB S.X.pm S.pc (done.map aN)))::(eP u6 (fa pre done)++(arF S++J))) ac;have hri:=hT2.sat.Q5;have hrm:=hT2.sat.Q7 (b:=S.X.pm) (o:=aO str (S.ps.map aN) S.pc) (by simp[arF,aF]);have hpermE:(done.map aN++todo.map aN).Perm (S.ps.map aN):=by rw[<- map_append];exact hperm.map _
   have hdl:done.length+todo.length=S.ps.length:=by rw[<- hperm.length_eq,length_append]
   have hpl:S.ps.length<=90000:=Nat.le_trans HH.c.np HH.d;rcases xA (P:=Tryz.prog) (ty:=0) hri hrm HH.b.paths.map hpermE with⟨ht,hnx⟩|⟨e,rest,w4,ht,hw4,hnx⟩
   ·have hte:todo=[]:=by simpa using ht
    have hdp:done.Perm S.ps:=by rw[hte,append_nil]at hperm;exact hperm
    have hee:(fa pre done).Perm (fa pre S.ps):=by unfold fa;exact(hdp.filter _).map _
    have hel:(fa pre done).length<=90000:=by
     have h1:(fa pre done).length<=done.length:=by unfold fa;rw[length_map];exact length_filter_le _ _
     omega
    obtain⟨es,hes⟩:∃es,es=fa pre done:=⟨_,rfl⟩;rw[<- hes]at hio hT hee hel;have HD:=Hq4 hio hT hee hel;clear hio hT hT2 hri hrm hpermE hdl hpl ht hte hdp hee hel hperm hes;by_cases hne:es=[]
    ·subst hne
     have hsn:∃p cap,u6=.slice p 0 cap:=by
      obtain⟨-,-,p,cap,e1,-,-⟩:=dl HD.b.sat.left HD.a;exact⟨p,cap,e1⟩
     obtain⟨p,cap,e1⟩:=hsn;have hsort:=AnyF.slices_SortFunc_none K8 p cap (.func (.func 87) #[] #[]) wr;change Calls Tryz.prog 86 _ _ _ at hsort;have HS:=Hq2 hsort e1;have HDD:=HD.out;rw[e1]at HDD;have HD2:=qqH HDD;subst e1;clear hsort HDD HD;go_wp2_with fail;refine HS.a.mono ?_;rintro e w5 ⟨rfl,rfl⟩;go_wp2_with fail;exact bodyPost_ret (results_tmp2 rfl _ _ _) rfl (.inr ⟨HH.e,_,[],rfl,⟨HD2.c,fun i j hij hj=>by simp at hj⟩,HD2.a,by exact HD2.b.drop (fun x=>by simp only[ao,ai];omega)⟩)
    ·obtain⟨g,cap,e1,hsort⟩:=DZ HD.b HD.a hne (by have:=HD.x;omega);have HS:=qqH hsort;clear hsort;have HDD:=HD.out;rw[e1]at HDD HS;have HD2:=qqH HDD;subst e1;clear HDD HD hne;go_wp2_with fail;refine HS.out.mono ?_;rintro e w5 ⟨rfl,es',hso,hok',hT5⟩;have H5:=Hq3 hso hok' hT5;clear hso hok' hT5;go_wp2_with fail;exact bodyPost_ret (results_tmp2 rfl _ _ _) rfl (.inr ⟨HH.e,_,es',rfl,⟨H5.a.1.trans HD2.c,H5.a.2⟩,H5.b,by exact H5.y.drop (fun x=>by simp only[ao,ai];omega)⟩)
   ·obtain⟨w5,hw5⟩:∃w5,w5=Go.ChangeMaps.setBlock w4 r (dB S.X.pm S.pc (done.map aN++[e])):=⟨_,rfl⟩;rw[<- hw5]at hnx
    obtain⟨p,hp,rfl⟩:∃p∈todo,aN p=e:=by
     have h1:e∈todo.map aN:=ht.mem_iff.2 (by simp);obtain⟨p,hp,he⟩:=mem_map.1 h1;exact⟨p,hp,he⟩
    obtain⟨s,t,rfl⟩:=append_of_mem hp;have hdone:done.map aN++[aN p]=(done++[p]).map aN:=by simp
    rw[hdone]at hw5
    have hT5:Turns (arF S) ((r,Is (dB S.X.pm S.pc ((done++[p]).map aN)))::(eP u6 (fa pre done)++(arF S++J))) w w5:=by
     rw[hw5];rcases hw4 with rfl|rfl
     ·exact hT2.Qa (dg _ _ _) (ey hri)
     ·exact(hT2.drew).Qa (dg _ _ _) (ey (by exact hri))
    have hpm:p∈S.ps:=hperm.mem_iff.1 (mem_append_right _ hp);have hri5:=hT5.sat.Q5;rw[<- hdone]at hri5;have hrm5:=hT5.sat.Q7 (b:=S.X.pm) (o:=aO str (S.ps.map aN) S.pc) (by simp[arF,aF]);have hen:=uH (P:=Tryz.prog) hri5 hrm5 HH.b.paths.map (mem_map.2 ⟨p,hpm,rfl⟩)
    have hperm2:((done++[p])++(s++t)).Perm S.ps:=by
     rw[append_assoc];show(done++(p::(s++t))).Perm S.ps;exact(((perm_middle (l₁:=s)).symm.append_left done).trans hperm)
    have hps:Sat w5 (d9 p.val p.g):=Sat.flat (f:=fun p:ba=>d9 p.val p.g) ((hT5.sat.sub (G:=aF S.X.pm S.ps S.pc) (fun x=>by simp only[arF,ao,ai]<;>omega)).tail) hpm;have hpo:=HH.b.paths.rows p hpm;have hne:=HH.b.some p hpm;obtain⟨sl,cap,e1,e2,e3,hcells,-⟩:=bv hps.left hpo.1 (by decide);have hgl:0<p.g.length:=length_pos_iff.2 hne;have hgb:p.g.length<=90000:=Nat.le_trans (HH.c.vers p hpm).2.1 HH.d;obtain⟨gp,offp,hsl,hcp⟩:=hcells (by rw[length_map];exact hgl);subst hsl;obtain⟨U,hU⟩:∃U,U=p.g[p.g.length-1]'(by omega):=⟨_,rfl⟩;have hUl:AZ p.g=U:=by unfold AZ;rw[getLast?_eq_getElem?,getElem?_eq_getElem (by omega),hU];rfl
    have hc1:w5.cell? ⟨gp,offp+(p.g.length-1),none⟩=some (.pointer (some ⟨U.blk,0,none⟩)):=by
     have:=hcp (p.g.length-1) (by rw[length_map];omega);rw[getElem_map,<- hU]at this;exact this
    have hUm:U∈p.g:=by rw[hU];exact getElem_mem _
    have hub:Sat w5 (bL U):=Sat.flat (f:=bL) hps.right hUm;have hc2:w5.cell? ⟨U.blk,0,none⟩=some (.int .i64 U.num):=aa hub.Q5 0 rfl;have hc3:w5.cell? ⟨U.blk,1,none⟩=some (.int .i64 U.size):=aa hub.Q5 1 rfl;have hul:=ae hub.Q5;obtain⟨n,hn⟩:∃n,n=p.g.length:=⟨_,rfl⟩;rw[<- hn]at e1 hgl hgb hc1;have hent:pEnt p=⟨p.key,U.num,U.size,n⟩:=by unfold pEnt;rw[hUl,hn]
    have hel:(fa pre done).length<=90000:=by
     have h1:(fa pre done).length<=done.length:=by unfold fa;rw[length_map];exact length_filter_le _ _
     omega
    obtain⟨pk,hpk⟩:∃pk,pk=p.key:=⟨_,rfl⟩;have hke:(aN p).key=pk:=hpk.symm;have hve:(aN p).val=.slice (some ⟨gp,offp,none⟩) n cap:=e1;rw[hke,hve]at hnx hen;obtain⟨es,hes⟩:∃es,es=fa pre done:=⟨_,rfl⟩;rw[<- hes]at hio hT5 hel;have hsub:IntKind.i64.wrap ((n:Int)-1)=((n-1:Nat):Int):=by rw[IntWalk.i64_in _ (by omega)];omega
    have hlt:((n-1:Nat):Int)<n:=by omega
    have hm1:ua r S.ps.length wr=S.ps.length-done.length:=by unfold ua;rw[hri];simp[dB]
    have hdl2:done.length<S.ps.length:=by simp at hdl;omega
    have HD:=qqH (And.intro hperm2 (And.intro hio (And.intro hT5 (And.intro hent (And.intro hes (And.intro hpk (And.intro hm1 (And.intro hdl2 (And.intro hpm hUm)))))))));clear hperm hperm2 hio hT hT2 hri hrm hpermE hpl hw5 hw4 hT5 hri5 hrm5 hps hpo hne hcells hcp hU hUl hUm hub hn hent hpk hke hve hes e1 hdone hp hpm ht hm1 hdl hdl2
    have hrelN:∀(v':Value) (w':World) (K:HF),pZ v' (fa pre (done++[p]))->Turns (arF S) (eP v' (fa pre (done++[p]))++((r,Is (dB S.X.pm S.pc ((done++[p]).map aN)))::(arF S++K))) w w'->xX S pre w r v' w'/\ua r S.ps.length w'<ua r S.ps.length wr:=fun v' w' K h1 h2=>by
     refine⟨⟨done++[p],s++t,K,HD.a,h1,h2⟩,?_⟩;have hr2:=h2.sat.Q7 (b:=r) (o:=dB S.X.pm S.pc ((done++[p]).map aN)) (by simp);have:ua r S.ps.length w'=S.ps.length-(done.length+1):=by unfold ua;rw[hr2];simp[dB]
     rw[this,HD.g];have:=HD.h;omega
    have HN:=qqH hrelN;clear hrelN;go_wp2_with fail;refine(sn pk pre w5).mono ?_;rintro e w6 ⟨rfl,rfl⟩
    cases hpre:pre.isPrefixOf pk with
    | false =>
     have hadd:fa pre (done++[p])=es:=by
      rw[HD.e];unfold fa;rw[filter_append,filter_cons,<- HD.f,hpre];simp
     have HA:=qqH hadd;clear hadd;go_wp2_with fail;have hfin:=HN.out u6 w6 J (by rw[HA.out];exact HD.b) (by rw[HA.out];exact HD.c.to ac);go_roundw
     case rel=>exact hfin.1
     case measure=>exact hfin.2
    | true =>
     have hadd:fa pre (done++[p])=es++[⟨pk,U.num,U.size,n⟩]:=by
      rw[HD.e];unfold fa;rw[filter_append,filter_cons,<- HD.f,hpre];simp only[if_true,filter_nil,map_append,map_cons,map_nil,HD.d,HD.f]
     have HA:=qqH hadd;clear hadd;go_upto_region 9 with(fail)
     have hverb:(U.blk,Is (dt U))∈arF S:=by
      obtain⟨hpS,hUm⟩:=HD.out.2.2.2.2.2.2.2.2;refine mem_cons_of_mem _ (mem_append_right _ (mem_append_right _ (mem_append_left _ (mem_cons_of_mem _ ?_))));exact mem_flatMap.2 ⟨p,hpS,mem_append_right _ (mem_flatMap.2 ⟨U,hUm,by simp[bL]⟩)⟩
     obtain⟨R,hR⟩:=pr (G:=[(U.blk,Is (dt U))]) (F:=arF S) (fun x=>by
      obtain⟨s',t',h⟩:=append_of_mem hverb;rw[h];simp only[ai,ao,ee];omega)
     have hTl:Turns (arF S) (eP u6 es++((U.blk,Is (dt U))::(R++((r,Is (dB S.X.pm S.pc ((done++[p]).map aN)))::J)))) w w6:=HD.c.to (by
      refine((((hR.append_right J).append_left _).cons _)).trans ?_;exact ac)
     have HR:=Hq2 hR hTl;clear hverb hR hTl;refine db [([0,1,2,3,4,5,6,7,8,9,10,11,12],13,[0]),([],14,[])] [15] HM.out (by kernel_rfl) fun W tW=>?_
     simp only[Mix,map_cons,map_nil,nth,QG,QF];have hT:=tW HR.z;clear tW;have hb:=hT.sat.Q7 (b:=U.blk) (o:=dt U) (by simp);have k0:W.cell? ⟨U.blk,0,none⟩=some (.int .i64 U.num):=aa hb 0 rfl;have k1:W.cell? ⟨U.blk,1,none⟩=some (.int .i64 U.size):=aa hb 1 rfl;clear hb;repeat still_step
     refine wpStill_nil (i8 (.cells (cg ⟨pk,U.num,U.size,n⟩).toArray 185 (0,0)) (fun g=>.slice (some ⟨g,0,none⟩) 1 1) (by kernel_rfl) hT fun nb w1 hT1=>⟨by((repeat still_step);exact rfl),?_⟩);simp only[Act.put,QA,QB,QC];have hT1:Turns (arF S) (IA nb pk U n::(eP u6 es++((U.blk,Is (dt U))::(R++((r,Is (dB S.X.pm S.pc ((done++[p]).map aN)))::J))))) w w1:=hT1;clear k0 k1 hT;refine wpStill_nil (zg (.tmp 35) (.tmp 48) rfl u6 es rfl (hT1.to (H:=eP u6 es++(IA nb pk U n::((U.blk,Is (dt U))::(R++((r,Is (dB S.X.pm S.pc ((done++[p]).map aN)))::J))))) ac) HD.b nb rfl ⟨pk,U.num,U.size,n⟩ hT1.sat.Q5 (by omega) (fun v7 w7 hok7 hT7=>⟨rfl,?_⟩));simp only[Act.put,QA,QB,QC];clear hT1;repeat still_step
     refine wpStill_nil ?_
     have hfin:=HN.out v7 w7 (IA nb pk U n::J) (by rw[HA.out];exact hok7) (by
      rw[HA.out];refine hT7.to ?_;have h1:(eP v7 (es++[⟨pk,U.num,U.size,n⟩])++((r,Is (dB S.X.pm S.pc ((done++[p]).map aN)))::(([(U.blk,Is (dt U))]++R)++(IA nb pk U n::J)))).Perm (eP v7 (es++[⟨pk,U.num,U.size,n⟩])++((r,Is (dB S.X.pm S.pc ((done++[p]).map aN)))::(arF S++(IA nb pk U n::J)))):=(((HR.a.symm.append_right _).cons _).append_left _);refine Perm.trans ?_ h1;exact ac)
     have HF:=qqH hfin;clear hfin hok7 hT7;go_wp2_with fail;go_roundw
     case rel=>exact HF.a
     case measure=>exact HF.z
end
section
open Go.RowKit
def dx(w:World)(b:Nat)(h:Int)(n:Nat):Prop:=w.heap[b]?=some (.cells (qN h n) 247 (0,0))
def Mh:Array Value:=jH 0
theorem KV(w:World):(zeroValue 247).run Tryz.prog w=.ok (.agg Mh) w:=by kernel_rfl
def vx(w:World)(e:Ending)(w':World):Prop :=
 e=.returned (.pointer (some ⟨w.heap.size,0,none⟩))/\dx w' w.heap.size 0 0/\aQ w w'
theorem so(w:World):Calls Tryz.prog 91 #[] w (vx w):=by
 have hz:=KV;go_enter Tryz.func91,Tryz.ntmps91;go_wp2;clear hz
 go_loopw [6] (fun i wr=>∃k:Nat,k<=256/\i=.int .i64 k/\wr.heap[w.heap.size]?=some (.cells (jH k) 247 (0,0))/\aQ w wr)
  (fun i _=>256-(intOf i).toNat)
 case atStart=>exact⟨0,by omega,rfl,aK w _,(Mods.refl _ _).alloc _⟩
 case round =>
  obtain⟨k,hk,rfl,hcs,hs⟩:=hrel;by_cases hlt:k<256
  ·have hc:=aa hcs k (AD k hlt);have hf:=bc hcs k;have HC:=qqH hcs;clear hcs;go_wp2;go_roundw
   case rel =>
    refine⟨k+1,by omega,by go_num,?_,hs.setCell (.inr (Nat.le_refl _)) _⟩;rw[bn HC.out];exact congrArg some (congrArg (fun c=>Obj.cells c _ _) (AE k hlt))
   case measure=>simp[intOf];omega
  ·obtain rfl:k=256:=by omega
   have HC:=qqH hcs;clear hcs;go_wp2;go_ret;exact⟨rfl,by unfold dx;rw[HC.out,yy],hs⟩
def sQ(w:World)(b:Nat)(h:Int)(n:Nat)(e:Ending)(w':World):Prop :=
 e=.returned (.bool (dy h n))/\dx w' b (if dy h n then 0 else h) (if dy h n then 0 else n)/\Mods (·=b) w w'/\w'.heap.size=w.heap.size
theorem fk{w:World}{b:Nat}{h:Int}{n:Nat}(hC:dx w b h n)(h' m:Int)(hm:m=h'):dx (w.setCell ⟨b,256,none⟩ (.int .u32 m)) b h' n :=
 (bn hC 256 _).trans (by rw[hm,CZ])
theorem fm{w:World}{b:Nat}{h:Int}{n:Nat}(hC:dx w b h n)(n':Nat)(m:Int)(hm:m=n'):dx (w.setCell ⟨b,257,none⟩ (.int .i64 m)) b h n' :=
 (bn hC 257 _).trans (by rw[C0 h n n' _ (by rw[hm])])
theorem fI{w:World}{b:Nat}{h:Int}{n:Nat}(hC:dx w b h n):dx w.drew b h n:=hC
theorem lQ{w w':World}{b:Nat}{h:Int}{n:Nat}(e:dy h n=true)(hC:dx w' b 0 0)(hM:Mods (·=b) w w')(hz:w'.heap.size=w.heap.size):
  sQ w b h n (.returned (.bool true)) w':=by
 refine⟨by rw[e],?_,hM,hz⟩;rw[e];exact hC
theorem mO{w w':World}{b:Nat}{h:Int}{n:Nat}(e:dy h n=false)(hC:dx w' b h n)(hM:Mods (·=b) w w')(hz:w'.heap.size=w.heap.size):
  sQ w b h n (.returned (.bool false)) w':=by
 refine⟨by rw[e],?_,hM,hz⟩;rw[e];exact hC
theorem sR(w:World)(b:Nat)(h:Int)(n c:Nat)(hc:c<256)(hn:n<256)(hC:dx w b h n):
  Calls Tryz.prog 92 #[.pointer (some ⟨b,0,none⟩),.int .u8 c] w (sQ w b (cQ h c) (n+1)):=by
 have h1:=aa hC c (Lt h n c hc);have h2:=aa hC 256 (Lu h n);have h3:=aa hC 257 (Lv h n);have f2:=bc hC 256;have f3:=bc hC 257;have HC:=qqH hC;clear hC;have b0:=Fy;go_enter Tryz.func92,Tryz.ntmps92;go_wp2;go_region;all_goals go_wp2
 all_goals go_ret
 ·refine lQ (pY (by omega)) ?_ ?_ ?_
  ·exact fI (fm (fk (fm (fk HC.out (cQ h c) _ rfl) (n+1) _ rfl) 0 0 rfl) 0 0 rfl)
  ·repeat (first|exact Mods.refl _ _|refine Mods.drew ?_|refine Mods.set1 ?_ _)
  ·simp[World.drew]
 ·refine mO (Ew (v:=true) (by omega) (by omega) (by assumption)) ?_ ?_ ?_
  ·exact fI (fm (fk HC.out (cQ h c) _ rfl) (n+1) _ rfl)
  ·repeat (first|exact Mods.refl _ _|refine Mods.drew ?_|refine Mods.set1 ?_ _)
  ·simp[World.drew]
 ·refine lQ (Ew (v:=false) (by omega) (by omega) (by assumption)) ?_ ?_ ?_
  ·exact fI (fm (fk (fm (fk HC.out (cQ h c) _ rfl) (n+1) _ rfl) 0 0 rfl) 0 0 rfl)
  ·repeat (first|exact Mods.refl _ _|refine Mods.drew ?_|refine Mods.set1 ?_ _)
  ·simp[World.drew]
 ·refine mO (Ev (v:=true) (by omega) (by omega) (by assumption)) ?_ ?_ ?_
  ·exact fI (fm (fk HC.out (cQ h c) _ rfl) (n+1) _ rfl)
  ·repeat (first|exact Mods.refl _ _|refine Mods.drew ?_|refine Mods.set1 ?_ _)
  ·simp[World.drew]
 ·refine lQ (Ev (v:=false) (by omega) (by omega) (by assumption)) ?_ ?_ ?_
  ·exact fI (fm (fk (fm (fk HC.out (cQ h c) _ rfl) (n+1) _ rfl) 0 0 rfl) 0 0 rfl)
  ·repeat (first|exact Mods.refl _ _|refine Mods.drew ?_|refine Mods.set1 ?_ _)
  ·simp[World.drew]
 ·refine mO (Iy (by omega)) ?_ ?_ ?_
  ·exact fI (fm (fk HC.out (cQ h c) _ rfl) (n+1) _ rfl)
  ·repeat (first|exact Mods.refl _ _|refine Mods.drew ?_|refine Mods.set1 ?_ _)
  ·simp[World.drew]
end
section
open Go.RowKit Go.Shelf
attribute [local go_sem] Oper.semAt_some
abbrev FW:Fence:=Fence.wide
def nI(J Jx:Nat->(Nat->Prop)->World->Prop)(i:Nat)(S:Nat->Prop)(A:World)(e:Ending)(B:World):Prop :=
 (e=.returned (.bool true)/\∃S',J (i+1) S' B/\Mods S A B/\∀k,S' k->k<B.heap.size/\(S k\/A.heap.size<=k)) \/
 (e=.returned (.bool false)/\∃S',Jx i S' B/\Mods S A B/\∀k,S' k->k<B.heap.size/\(S k\/A.heap.size<=k))
def pC(J Jx:Nat->(Nat->Prop)->World->Prop)(N:Nat)(S:Nat->Prop)(W:World)(e:Ending)(B:World):Prop :=
 (∃v,e=.returned v)/\∃S',(J N S' B\/∃i,i<N/\Jx i S' B)/\Mods S W B/\∀k,S' k->k<B.heap.size/\(S k\/W.heap.size<=k)
def xS(J:Nat->(Nat->Prop)->World->Prop)(data:List UInt8)(S0:Nat->Prop)(W:World)(c box d:Nat)(k:Nat)(i frm:Nat)(wr:World):Prop :=
 ∃S,J i S wr/\¬S c/\¬S box/\¬S d/\(∀q,S q->q<wr.heap.size/\(S0 q\/W.heap.size<=q))/\Mods S0 W wr/\c<wr.heap.size /\
  i<=(aE data).length/\(k=data.length->i=(aE data).length) /\
  (k<data.length->∃h n,dx wr c h n/\n<256/\frm+n=k/\frm=((aE data).take i).sum/\(aE data).drop i=cJ h n (data.drop k))
theorem sr{l:List Nat}{i a:Nat}{r:List Nat}(h:l.drop i=a::r):∃hi:i<l.length,l[i]=a/\l.drop (i+1)=r/\(l.take (i+1)).sum=(l.take i).sum+a:=by
 have hi:i<l.length:=by
  rcases Nat.lt_or_ge i l.length with h'|h'
  ·exact h'
  ·rw[drop_of_length_le h']at h;cases h
 have e:l[i]=a:=by
  have:=getElem?_drop (xs:=l) (i:=i) (j:=0);rw[h]at this;simp at this;exact(List.getElem?_eq_some_iff.1 this.symm).2
 refine⟨hi,e,?_,?_⟩
 ·rw[<- drop_drop,h];rfl
 ·rw[QH hi,sum_append,e];simp
theorem rJ{data:List UInt8}{k i frm m:Nat}{h:Int}{x:UInt8}(hlt:k<data.length)(hx:x=data[k])(hfm:frm+m=k)(hfr:frm=((aE data).take i).sum)(hdr:(aE data).drop i=cJ h m (data.drop k))(he:dy (cQ h x.toNat) (m+1)=true\/k+1=data.length):
  ∃hi:i<(aE data).length,(aE data)[i]=k+1-frm/\(aE data).drop (i+1)=cJ 0 0 (data.drop (k+1))/\k+1=((aE data).take (i+1)).sum:=by
 have hd:data.drop k=x::data.drop (k+1):=by rw[hx];exact drop_eq_getElem_cons hlt
 have h2:(aE data).drop i=(m+1)::cJ 0 0 (data.drop (k+1)):=by
  rw[hdr,hd];rcases he with he|he
  ·exact qP _ _ _ _ he
  ·rw[drop_of_length_le (by omega)];rw[o7];rfl
 obtain⟨hi,h3,h4,h5⟩:=sr h2;exact⟨hi,by omega,h4,by omega⟩
section
variable {J Jx:Nat->(Nat->Prop)->World->Prop} {data:List UInt8} {S0 S:Nat->Prop} {W wr w2 w3:World} {c box d k i frm m:Nat} {h:Int} {x:UInt8}
theorem FL(hlt:k<data.length)(hx:x=data[k])(hfm:frm+m=k)(hfr:frm=((aE data).take i).sum)(hdr:(aE data).drop i=cJ h m (data.drop k))(he:dy (cQ h x.toNat) (m+1)=true\/k+1=data.length)(hSc:¬S c)(hSb:¬S box)(hSd:¬S d)(hSu:∀q,S q->q<wr.heap.size/\(S0 q\/W.heap.size<=q))(hM:Mods S0 W wr)(hcW:W.heap.size<=c)(hcl:c<wr.heap.size)(hbW:box<W.heap.size)(hdl:d<W.heap.size)(hM2:Mods (·=c) wr w2)(hC2:k+1<data.length->dx w2 c 0 0){S':Nat->Prop}(hJ:J (i+1) S' w3)(hM3:Mods S w2 w3)(hS':∀q,S' q->q<w3.heap.size/\(S q\/w2.heap.size<=q)):
  xS J data S0 W c box d (k+1) (i+1) (k+1) w3:=by
 obtain⟨hi,h3,h4,h5⟩:=rJ hlt hx hfm hfr hdr he;have z2:=hM2.size;have z3:=hM3.size;have z1:=hM.size;refine⟨S',hJ,?_,?_,?_,?_,?_,by omega,by omega,?_,?_⟩
 ·intro hc;rcases(hS' c hc).2 with h'|h'
  ·exact hSc h'
  ·omega
 ·intro hc;rcases(hS' box hc).2 with h'|h'
  ·exact hSb h'
  ·omega
 ·intro hc;rcases(hS' d hc).2 with h'|h'
  ·exact hSd h'
  ·omega
 ·intro q hq;refine⟨(hS' q hq).1,?_⟩;rcases(hS' q hq).2 with h'|h'
  ·exact(hSu q h').2
  ·omega
 ·refine(hM.trans' hM2 (fun q hq=>?_)).trans' hM3 (fun q hq=>(hSu q hq).2);subst hq;exact .inr hcW
 ·intro hk;rw[show data.drop (k+1)=[]from drop_of_length_le (by omega)]at h4;simp only[cJ]at h4;have:=drop_eq_nil_iff.1 h4;omega
 ·intro hk;exact⟨0,0,hM3.at (hC2 hk) hSc,by omega,by omega,h5,h4⟩
theorem FM(hlt:k+1<data.length)(hx:x=data[k])(hfm:frm+m=k)(hfr:frm=((aE data).take i).sum)(hi:i<=(aE data).length)(hdr:(aE data).drop i=cJ h m (data.drop k))(he:dy (cQ h x.toNat) (m+1)=false)(hJ:J i S wr)(hfrm:∀i S A B,J i S A->(∀k,S k->k<A.heap.size)->Mods (fun k=>¬S k) A B->J i S B)(hSc:¬S c)(hSb:¬S box)(hSd:¬S d)(hSu:∀q,S q->q<wr.heap.size/\(S0 q\/W.heap.size<=q))(hM:Mods S0 W wr)(hcW:W.heap.size<=c)(hcl:c<wr.heap.size)(hM2:Mods (·=c) wr w2)(hC2:dx w2 c (cQ h x.toNat) (m+1)):
  xS J data S0 W c box d (k+1) i frm w2:=by
 have z2:=hM2.size;refine⟨S,hfrm i S wr w2 hJ (fun q hq=>(hSu q hq).1) (hM2.mono (fun q hq=>.inl (by subst hq;exact hSc))),hSc,hSb,hSd,fun q hq=>⟨by have:=(hSu q hq).1;omega,(hSu q hq).2⟩,?_,by omega,hi,by omega,?_⟩
 ·refine hM.trans' hM2 (fun q hq=>?_);subst hq;exact .inr hcW
 ·intro _;have hd:data.drop k=x::data.drop (k+1):=by rw[hx];exact drop_eq_getElem_cons (by omega)
  refine⟨cQ h x.toNat,m+1,hC2,?_,by omega,hfr,?_⟩
  ·rcases Nat.lt_or_ge (m+1) 256 with h'|h'
   ·exact h'
   ·rw[pY h']at he;cases he
  ·rw[hdr,hd,tM _ _ _ _ he];intro hn;have:=drop_eq_nil_iff.1 hn;omega
end
def wg(P:Program)(n l d off:Nat)(data:List UInt8)(J Jx:Nat->(Nat->Prop)->World->Prop):Prop :=
  ∀i S A (hi:i<(aE data).length),J i S A->eN A d off data->(∀k,S k->k<A.heap.size)->¬S d ->
   YieldAt FW n P l #[.slice (some ⟨d,off+((aE data).take i).sum,none⟩) (aE data)[i] (aE data)[i]] A (nI J Jx i S A)
def xV(J:Nat->(Nat->Prop)->World->Prop):Prop:=∀i S A B,J i S A->(∀k,S k->k<A.heap.size)->Mods (fun k=>¬S k) A B->J i S B
theorem C5{n l d off:Nat}{data:List UInt8}{J Jx:Nat->(Nat->Prop)->World->Prop}(hround:wg Tryz.prog n l d off data J Jx)(hfrm:xV J){k i frm m:Nat}{h:Int}{x:UInt8}(hlt:k<data.length)(hx:x=data[k])(hfm:frm+m=k)(hfr:frm=((aE data).take i).sum)(hdr:(aE data).drop i=cJ h m (data.drop k))(he:dy (cQ h x.toNat) (m+1)=true\/k+1=data.length){S S0:Nat->Prop}{W wr w2:World}{c:Nat}(hJ:J i S wr)(hd:eN W d off data)(hSu:∀q,S q->q<wr.heap.size/\(S0 q\/W.heap.size<=q))(hM:Mods S0 W wr)(hSd0:¬S0 d)(hSd:¬S d)(hSc:¬S c)(hM2:Mods (·=c) wr w2)(hdc:d≠c):
  YieldAt FW n Tryz.prog l #[.slice (some ⟨d,off+frm,none⟩) (k+1-frm) (k+1-frm)] w2 (nI J Jx i S w2)/\i<(aE data).length:=by
 obtain⟨hi,h3,h4,h5⟩:=rJ hlt hx hfm hfr hdr he
 have:=hround i S w2 hi (hfrm i S wr w2 hJ (fun q hq=>(hSu q hq).1) (hM2.mono (fun q hq=>.inl (by subst hq;exact hSc)))) ((hd.keep hM hSd0).keep hM2 hdc)
  (fun q hq=>Nat.lt_of_lt_of_le (hSu q hq).1 hM2.size) hSd
 rw[h3,<- hfr]at this;exact⟨this,hi⟩
theorem zp(n l box d off cap:Nat)(a:Option Addr)(data:List UInt8)(J Jx:Nat->(Nat->Prop)->World->Prop)(W:World)(S0:Nat->Prop)(ha:0<data.length->a=some ⟨d,off,none⟩)(hcap:data.length<=cap)(hmax:data.length<=140737488351232)(hbox:W.heap[box]?=some (.cells #[.slice a data.length cap] 35 (0,0)))(hd:eN W d off data)(hSb:¬S0 box)(hSd:¬S0 d)(hSo:∀k,S0 k->k<W.heap.size)(h0:J 0 S0 W)(hfrm:xV J)(hround:wg Tryz.prog n l d off data J Jx):
  CallsIn FW (n+1) Tryz.prog 90 #[.func (.yield l) #[] #[],.pointer (some ⟨box,0,none⟩)] W (pC J Jx (aE data).length S0 W):=by
 have hbW:=ae hbox;refine callsIn_of_wp Tryz.func90 rfl trivial ?_ rfl;simp only[Tryz.ntmps90,size_toArray,length_cons,length_nil,Nat.reduceAdd,Nat.reduceSub,Array.replicate_succ,Array.replicate_zero,push_toArray,append_toArray,nil_append,cons_append];gi_wp2_with fail;refine⟨trivial,(callsIn_wide.2 (so _)).mono ?_⟩;rintro e w1 ⟨rfl,hC1,hs1⟩;obtain⟨c,hcdef⟩:∃c,c=W.heap.size:=⟨_,rfl⟩;rw[<- hcdef]at hC1 ⊢;have hbox1:=aa (hs1.at hbox id) 0 (v:=.slice a data.length cap) (by simp);have HC1:=Hq6 hC1 hcdef h0 hSo hbox hs1;clear hC1 hcdef h0 hSo hbox hs1;have HR:=qqH hround;have HF:=qqH hfrm;have HD:=qqH hd;clear hround hfrm hd;gi_wp2_with fail
 gi_loopw [4,10] (fun fr kk wr=>∃(k i frm:Nat),k<=data.length/\fr=.int .i64 frm/\kk=.int .i64 k/\xS J data S0 W c box d k i frm wr)
  (fun _ kk _=>data.length-(intOf kk).toNat)
 case atStart =>
  obtain⟨hC1,hc,h0,hSo,hbox,hs1⟩:=HC1.out;refine⟨0,0,0,by omega,rfl,rfl,S0,HF.out 0 S0 W w1 h0 hSo (hs1.mods _),?_,hSb,hSd,fun q hq=>⟨by have:=hSo q hq;have:=hs1.size;omega,.inl hq⟩,hs1.mods _,?_,by omega,?_,?_⟩
  ·intro hq;have:=hSo _ hq;omega
  ·have:=ae hC1;exact this
  ·intro hk;have:data=[]:=eq_nil_of_length_eq_zero hk.symm;subst this;simp[aE,cJ]
  ·intro hk;exact⟨0,0,hC1,by omega,rfl,by simp,by simp[aE]⟩
 case round =>
  obtain⟨k,i,frm,hk,rfl,rfl,hR⟩:=hrel;by_cases hlt:k<data.length
  ·obtain⟨S,hJ,hSc,hSb',hSd',hSu,hM,hcl,hi,_,hst⟩:=hR;obtain⟨h,m,hC,hm,hfm,hfr',hdr⟩:=hst hlt;obtain rfl:=ha (by omega);have hbx:=aa (hM.at HC1.e hSb) 0 (v:=.slice (some ⟨d,off,none⟩) data.length cap) (by simp);have hdk:=(HD.out.keep hM hSd) k hlt;have hdl:d<W.heap.size:=World.block_lt_of_cell? W _ (HD.out k hlt);have hcW:W.heap.size<=c:=by have:=HC1.b;omega
   have hbx':∀w2:World,Mods (·=c) wr w2->w2.cell? ⟨box,0,none⟩=some (.slice (some ⟨d,off,none⟩) data.length cap):=fun w2 h2=>by
    have e:=h2.block box (by have:=hM.size;omega) (by omega);exact(World.cell?_of_block (w:=wr) e).trans hbx
   have HI:=Hq6 hJ hSu hM hC hfr' hdr;have HB:=qqH hbx';clear hJ hSu hM hC hfr' hdr hst hbx';obtain⟨x,hx⟩:∃x:UInt8,x=data[k]:=⟨_,rfl⟩;rw[<- hx]at hdk;have Hx:=qqH hx;clear hx;have hxl:=x.toNat_lt;have hfk:frm<=k:=by omega
   have hfc:frm<cap:=by omega
   have HFM:=qqH hfm;clear hfm;by_cases hE:dy (cQ h x.toNat) (m+1)=true\/k+1=data.length
   ·obtain⟨z,hz⟩:∃z,dy (cQ h x.toNat) (m+1)=z:=⟨_,rfl⟩;have HE:=qqH hE;have HZ:=qqH hz;clear hE hz;gi_wp2_with fail;refine⟨trivial,(callsIn_wide.2 (sR wr c h m x.toNat hxl (by omega) HI.d)).mono ?_⟩;rintro e w2 ⟨rfl,hC2,hM2,hz2⟩;rw[HZ.out]at hC2 ⊢;have hb2:=HB.out w2 hM2
    have hlast:z=false->((k:Int)==(data.length:Int)-1)=true:=fun hzf=>by
     rcases HE.out with h'|h'
     ·rw[HZ.out,hzf]at h';cases h'
     ·simp;omega
    obtain⟨hI1,hI2,hI3,hI4,hI5,hI6⟩:=HI.out;obtain⟨⟨fn,tmps,assign,body,hy,hRd⟩,hil⟩:=C5 HR.out HF.out hlt Hx.out HFM.out hI5 hI6 HE.out hI1 HD.out hI2 hI3 hSd hSd' hSc hM2 (by omega)
    have hCz:k+1<data.length->dx w2 c 0 0:=fun hk1=>by
     rcases HE.out with h'|h'
     ·rw[HZ.out]at h';rw[h']at hC2;exact hC2
     ·omega
    have HN:=qqH (fun(w3:World) (S':Nat->Prop) (hJ3:J (i+1) S' w3) (hM3:Mods S w2 w3) (hS3:∀q,S' q->q<w3.heap.size/\(S q\/w2.heap.size<=q)) =>
     FL (box:=box) hlt Hx.out HFM.out hI5 hI6 HE.out hSc hSb' hSd' hI2 hI3 hcW hcl hbW hdl hM2 hCz hJ3 hM3 hS3)
    have HX:=Hq5 hil (hI3.trans' hM2 (T:=(·=c)) (fun q hq=>.inr (by omega))) hI2 hM2.size hI3.size;clear hC2 hM2 hz2 hI1 hI2 hI3 hI4 hI5 hI6 hCz hil
    cases z
    ·have hl:=hlast rfl;clear hlast;gi_wp2_with fail;refine hRd.mono ?_;rintro e w3 (⟨rfl,S',hJ3,hM3,hS3⟩|⟨rfl,S',hJ3,hM3,hS3⟩)
     ·have HR3:=qqH (HN.out w3 S' hJ3 hM3 hS3);clear hJ3 hM3 hS3 hy;gi_wp2;go_roundw
      case rel=>exact⟨k+1,i+1,k+1,by omega,by go_num,by go_num,HR3.out⟩
      case measure=>simp[intOf];omega
     ·obtain⟨hil,hM02,hI2,hz2,hz1⟩:=HX.out
      have HP:Hid (pC J Jx (aE data).length S0 W (.returned (.tuple #[])) w3) :=
       ⟨⟨_,rfl⟩,S',.inr ⟨i,hil,hJ3⟩,hM02.trans' hM3 (fun q hq=>(hI2 q hq).2),fun q hq=>⟨(hS3 q hq).1,by
        rcases(hS3 q hq).2 with h'|h'
        ·exact(hI2 q h').2
        ·exact .inr (by omega)⟩⟩
      clear hJ3 hM3 hS3 hy hil hM02 hI2 hz2 hz1;gi_wp2;refine bodyPost_ret (results_none rfl _ _ _) rfl ?_;exact HP.out
    ·clear hlast;gi_wp2_with fail;refine hRd.mono ?_;rintro e w3 (⟨rfl,S',hJ3,hM3,hS3⟩|⟨rfl,S',hJ3,hM3,hS3⟩)
     ·have HR3:=qqH (HN.out w3 S' hJ3 hM3 hS3);clear hJ3 hM3 hS3 hy;gi_wp2;go_roundw
      case rel=>exact⟨k+1,i+1,k+1,by omega,by go_num,by go_num,HR3.out⟩
      case measure=>simp[intOf];omega
     ·obtain⟨hil,hM02,hI2,hz2,hz1⟩:=HX.out
      have HP:Hid (pC J Jx (aE data).length S0 W (.returned (.tuple #[])) w3) :=
       ⟨⟨_,rfl⟩,S',.inr ⟨i,hil,hJ3⟩,hM02.trans' hM3 (fun q hq=>(hI2 q hq).2),fun q hq=>⟨(hS3 q hq).1,by
        rcases(hS3 q hq).2 with h'|h'
        ·exact(hI2 q h').2
        ·exact .inr (by omega)⟩⟩
      clear hJ3 hM3 hS3 hy hil hM02 hI2 hz2 hz1;gi_wp2;refine bodyPost_ret (results_none rfl _ _ _) rfl ?_;exact HP.out
   ·have hk1:k+1<data.length:=by
     rcases Nat.lt_or_ge (k+1) data.length with h'|h'
     ·exact h'
     ·exact absurd (.inr (by omega)) hE
    have hz:dy (cQ h x.toNat) (m+1)=false:=by
     cases hz:dy (cQ h x.toNat) (m+1)
     ·rfl
     ·exact absurd (.inl hz) hE
    have hne:((k:Int)==(data.length:Int)-1)=false:=by simp;omega
    have HZ:=qqH hz;clear hE hz;gi_wp2_with fail;refine⟨trivial,(callsIn_wide.2 (sR wr c h m x.toNat hxl (by omega) HI.d)).mono ?_⟩;rintro e w2 ⟨rfl,hC2,hM2,hz2⟩;rw[HZ.out]at hC2 ⊢;have hb2:=HB.out w2 hM2;obtain⟨hI1,hI2,hI3,hI4,hI5,hI6⟩:=HI.out;have HN:=qqH (FM (box:=box) (d:=d) hk1 Hx.out HFM.out hI5 hi hI6 HZ.out hI1 HF.out hSc hSb' hSd' hI2 hI3 hcW hcl hM2 hC2);clear hC2 hM2 hz2 hI1 hI2 hI3 hI4 hI5 hI6;gi_wp2;go_roundw
    case rel=>exact⟨k+1,i,frm,by omega,rfl,by go_num,HN.out⟩
    case measure=>simp[intOf];omega
  ·obtain rfl:k=data.length:=by omega
   obtain⟨S,hJ,hSc,hSb',hSd',hSu,hM,hcl,hi,hil,hst⟩:=hR
   have HP:Hid (pC J Jx (aE data).length S0 W (.returned (.tuple #[])) wr) :=
    ⟨⟨_,rfl⟩,S,.inl (by rw[hil rfl]at hJ;exact hJ),hM,hSu⟩
   clear hJ hSu hM hil hst;gi_wp2;go_end0;exact HP.out
end
section
open Go.RowKit Go.Shelf
def Own(S S':Nat->Prop)(A B:World):Prop:=Mods S A B/\∀k,S' k->k<B.heap.size/\(S k\/A.heap.size<=k)
def FB(I:Nat->(Nat->Prop)->World->Prop)(Ix:Code->Nat->(Nat->Prop)->World->Prop)(i:Nat)(S:Nat->Prop)(A:World):Exit->Act->World->Prop
 | .normal,_,B=>∃S',I (i+1) S' B/\Own S S' A B
 | .ret,_,B=>∃S',Ix .ret i S' B/\Own S S' A B
 | .exit id,_,B=>∃S',Ix (.exit id) i S' B/\Own S S' A B
 | .goto t,_,B=>∃S',Ix (.goto t) i S' B/\Own S S' A B
 | .panic _,_,_=>False
 | .outgrown,_,_=>False
def fX(d off:Nat)(data:List UInt8)(i:Nat):Value :=
 .slice (some ⟨d,off+((aE data).take i).sum,none⟩) ((aE data).getD i 0) ((aE data).getD i 0)
theorem LG{S S':Nat->Prop}{A B:World}(h:Own S S' A B):∀k,S' k->k<B.heap.size:=fun k hk=>(h.2 k hk).1
theorem GS{n:Nat}{g:Operand}{p:Tmp}{assign body:Code}{Q:Exit->Act->World->Prop}{a:Act}{w:World}(box d off cap:Nat)(a0:Option Addr)(data:List UInt8)(hg:a.eval g=.func (.func 90) #[] #[.pointer (some ⟨box,0,none⟩)])(ha:0<data.length->a0=some ⟨d,off,none⟩)(hcap:data.length<=cap)(hmax:data.length<=140737488351232)(hbox:w.heap[box]?=some (.cells #[.slice a0 data.length cap] 35 (0,0)))(hd:eN w d off data)(hdw:d≠w.heap.size/\d≠w.heap.size+1)(I:Nat->(Nat->Prop)->World->Prop)(Ix:Code->Nat->(Nat->Prop)->World->Prop)(S0:Nat->Prop)(hSb:¬S0 box)(hSd:¬S0 d)(hSo:∀k,S0 k->k<w.heap.size)(h0:I 0 S0 w)(hI:xV I)(hIx:∀c,xV (Ix c))(a₁:Nat->Act)(hassign:∀(l i:Nat) (W:World) (K:Act->World->Prop),K (a₁ i) W ->
   assign.wpIn (FW.inRound l) n Tryz.prog (Exit.then K (fun _ _ _=>False)) { tmps:=a.tmps.setIfInBounds p (fX d off data i),defers:=[] } W)(hbody:∀(l i:Nat) (S:Nat->Prop) (A:World),i<(aE data).length->I i S A->eN A d off data->(∀k,S k->k<A.heap.size)->¬S d->w.heap.size<=A.heap.size ->
   body.wpIn (FW.inRound l) n Tryz.prog (FB I Ix i S A) (a₁ i) A)(hdone:∀(D:Nat) (S:Nat->Prop) (B:World),w.heap.size<=D->I (aE data).length S B->Own S0 S w B->¬S D->B.heap[D]?=some (.deferred (some [])) ->
   Q .normal { a with defers:={ target:=.collected D,args:=#[] }::a.defers } B)(hstop:∀(D i:Nat) (c:Code) (S:Nat->Prop) (B:World),w.heap.size<=D->i<(aE data).length->Ix c i S B->Own S0 S w B->¬S D->B.heap[D]?=some (.deferred (some [])) ->
   c.wpIn FW (n+1+1) Tryz.prog Q { a with defers:={ target:=.collected D,args:=#[] }::a.defers } B):
  (Code.rangeFunc g #[p] assign body).wpIn FW (n+1+1) Tryz.prog Q a w:=by
 refine wpIn_rangeFunc ?_;intro fn _;obtain⟨rec,hrec⟩:∃rec:LoopState->Option Code->Loop,rec=fun st pe=>{ state:=st,pending:=pe,fn,tmps:=a.tmps,params:=#[p],assign,body,defers:=w.heap.size }:=⟨_,rfl⟩
 obtain⟨W1,hW1⟩:∃W1,(w.alloc (.deferred (some []))).alloc (.loop (rec .ready none))=W1:=⟨_,rfl⟩;obtain⟨L,hL⟩:∃L,L=w.heap.size+1:=⟨_,rfl⟩;obtain⟨D,hD⟩:∃D,D=w.heap.size:=⟨_,rfl⟩;have hz1:W1.heap.size=w.heap.size+2:=by rw[<- hW1];simp
 have hL1:W1.heap[L]?=some (.loop (rec .ready none)):=by
  rw[<- hW1,hL];have:=World.alloc_heap_new (w.alloc (.deferred (some []))) (.loop (rec .ready none));rwa [World.size_alloc]at this
 have hK1:W1.heap[D]?=some (.deferred (some [])):=by
  rw[<- hW1,hD];exact(Below.heap_alloc _ _ _ (by simp)).trans (World.alloc_heap_new w _)
 have hs1:aQ w W1:=by rw[<- hW1];exact((Mods.refl _ w).alloc _).alloc _
 refine⟨L,[{ target:=.collected D,args:=#[] }],W1,{ target:=.fn (.func 90) #[.pointer (some ⟨box,0,none⟩)],args:=#[.func (.yield L) #[] #[]] },W1,90,
  #[.func (.yield L) #[] #[]]++#[.pointer (some ⟨box,0,none⟩)],W1,?_,?_,?_,?_,(fun h=>by cases h),?_⟩
 ·rw[<- hW1,hrec,hL,hD];exact run_enterLoop_outer _ _ _ _ _
 ·simp only[resolve,hg];simp[go_sem]
 ·intro f' _;trivial
 ·have eg:=enters_of (P:=Tryz.prog) Tryz.func90 (by kernel_rfl) rfl;simp[invoke,go_sem,eg _ W1]
 ·obtain⟨J,hJ⟩:∃J:Nat->(Nat->Prop)->World->Prop,J=fun i T A=>∃S,I i S A/\(∀q,T q↔S q\/q=L\/q=D)/\¬S L/\¬S D/\A.heap[L]?=some (.loop (rec .ready none)) /\
    A.heap[D]?=some (.deferred (some []))/\(∀k,S k->k<A.heap.size)/\w.heap.size<=A.heap.size:=⟨_,rfl⟩
  obtain⟨Jx,hJx⟩:∃Jx:Nat->(Nat->Prop)->World->Prop,Jx=fun i T A=>∃c S,Ix c i S A/\(∀q,T q↔S q\/q=L\/q=D)/\¬S L/\¬S D/\A.heap[L]?=some (.loop (rec .done (some c))) /\
    A.heap[D]?=some (.deferred (some []))/\(∀k,S k->k<A.heap.size)/\w.heap.size<=A.heap.size:=⟨_,rfl⟩
  have hput:∀{S:Nat->Prop} {A:World} (o:Obj),¬S L->Mods (fun k=>¬S k) A (A.putObj L o):=fun o h=>(Mods.refl _ _).putObj (.inl h) o
  have hbW:=ae hbox;refine(zp n L box d off cap a0 data J Jx W1 (fun q=>S0 q\/q=L\/q=D) ha hcap hmax (hs1.at hbox id) (hd.keep hs1 id) ?_ ?_ ?_ ?_ ?_ ?_).mono ?_
  ·rintro(h|h|h)
   ·exact hSb h
   ·omega
   ·omega
  ·rintro(h|h|h)
   ·exact hSd h
   ·omega
   ·omega
  ·rintro q (h|h|h)
   ·have:=hSo q h;omega
   ·omega
   ·omega
  ·rw[hJ];exact⟨S0,hI 0 S0 w W1 h0 hSo (hs1.mods _),fun q=>Iff.rfl,fun h=>by have:=hSo _ h;omega,fun h=>by have:=hSo _ h;omega,hL1,hK1,fun k hk=>by have:=hSo k hk;omega,by omega⟩
  ·rw[hJ];rintro i T A B ⟨S,hi,hT,hSL,hSD,hl,hk,ho,hz⟩ hTo hM;have hM':Mods (fun k=>¬S k) A B:=hM.mono (fun q hq=>.inl (fun h=>hq ((hT q).2 (.inl h))));exact⟨S,hI i S A B hi ho hM',hT,hSL,hSD,hM.at hl (fun h=>h ((hT L).2 (.inr (.inl rfl)))),hM.at hk (fun h=>h ((hT D).2 (.inr (.inr rfl)))),fun k hk'=>Nat.lt_of_lt_of_le (ho k hk') hM.size,Nat.le_trans hz hM.size⟩
  ·rintro i T A hi hj hdA hTo hTd;rw[hJ]at hj;obtain⟨S,hi',hT,hSL,hSD,hl,hk,ho,hz⟩:=hj;have hSd':¬S d:=fun h=>hTd ((hT d).2 (.inl h))
   have hlt:=ae hl;have hy:=run_yield (P:=Tryz.prog) (args:=#[fX d off data i]) hl (by rw[hrec];rfl);rw[hrec]at hy
   have hget:fX d off data i=.slice (some ⟨d,off+((aE data).take i).sum,none⟩) (aE data)[i] (aE data)[i]:=by
    simp[fX,getD_eq_getElem?_getD,hi]
   rw[<- hget]
   have hy':(Instr.yield L #[fX d off data i]).run Tryz.prog A=.ok (.round L fn (a.tmps.setIfInBounds p (fX d off data i)) assign body) A:=by
    rw[hy];simp
   refine⟨fn,_,assign,body,hy',roundIn_of_wpIn trivial (hassign L i A (fun a₁' w₁=>∃w₂,(Instr.beginRound L).run Tryz.prog w₁=.ok () w₂/\body.wpIn (FW.inRound L) n Tryz.prog (roundPost Tryz.prog L (nI J Jx i T A)) a₁' w₂) ⟨_,run_beginRound hl (by rw[hrec]),?_⟩)⟩;obtain⟨A2,hA2⟩:∃A2,A2=A.putObj L (.loop { rec .ready none with state:=.busy }):=⟨_,rfl⟩;rw[<- hA2];have hl2:A2.heap[L]?=some (.loop (rec .busy none)):=by rw[hA2,World.putObj_heap_same hlt,hrec]
   have hMA:Mods (fun k=>¬S k) A A2:=by rw[hA2];exact hput _ hSL
   have hMA':Mods (fun k=>k=L) A A2:=by rw[hA2];exact Mods.putObj (S:=fun k=>k=L) (Mods.refl _ _) (r:=L) (Or.inl rfl) _
   have hzA:A2.heap.size=A.heap.size:=by rw[hA2];simp
   have hk2:A2.heap[D]?=some (.deferred (some [])):=hMA'.at hk (by omega);refine wpIn_mono (hbody L i S A2 hi (hI i S A A2 hi' ho hMA) (hdA.keep hMA' (by omega)) (fun q hq=>by have:=ho q hq;omega) hSd' (by omega)) ?_
   have fin:∀(jump:Option Code) (S':Nat->Prop) (B:World),Own S S' A2 B ->
     (Instr.endRound L jump).run Tryz.prog B=.ok (.bool jump.isNone) (B.putObj L (.loop (rec (if jump.isNone then .ready else .done) jump))) /\
     ¬S' L/\¬S' D/\(B.putObj L (.loop (rec (if jump.isNone then .ready else .done) jump))).heap[L]?=some (.loop (rec (if jump.isNone then .ready else .done) jump)) /\
     (B.putObj L (.loop (rec (if jump.isNone then .ready else .done) jump))).heap[D]?=some (.deferred (some [])) /\
     Mods T A (B.putObj L (.loop (rec (if jump.isNone then .ready else .done) jump)))/\w.heap.size<=B.heap.size/\(∀k,S' k->k<B.heap.size):=fun jump S' B hO=>by
    have hl3:B.heap[L]?=some (.loop (rec .busy none)):=hO.1.at hl2 hSL;have hk3:=hO.1.at hk2 hSD;have hr:=run_endRound (P:=Tryz.prog) jump hl3;rw[hrec]at hr ⊢
    have hSL':¬S' L:=fun h=>by
     rcases(hO.2 L h).2 with h'|h'
     ·exact hSL h'
     ·omega
    have hSD':¬S' D:=fun h=>by
     rcases(hO.2 D h).2 with h'|h'
     ·exact hSD h'
     ·omega
    refine⟨hr,hSL',hSD',World.putObj_heap_same (ae hl3),(World.putObj_heap_other (by omega)).trans hk3,?_,by have:=hO.1.size;omega,LG hO⟩;refine((hMA'.mono (fun q hq=>.inl ((hT q).2 (.inr (.inl hq))))).trans (hO.1.mono (fun q hq=>.inl ((hT q).2 (.inl hq))))).putObj (.inl ((hT L).2 (.inr (.inl rfl)))) _
   have own':∀(jump:Option Code) (S':Nat->Prop) (B:World),Own S S' A2 B->∀k,(S' k\/k=L\/k=D)->k<(B.putObj L (.loop (rec (if jump.isNone then .ready else .done) jump))).heap.size/\(T k\/A.heap.size<=k):=fun jump S' B hO k hk'=>by
    have:=hO.1.size;have:=ae hk;rw[World.putObj_size];rcases hk' with h|h|h
    ·refine⟨(hO.2 k h).1,?_⟩;rcases(hO.2 k h).2 with h'|h'
     ·exact .inl ((hT k).2 (.inl h'))
     ·exact .inr (by omega)
    ·exact⟨by omega,.inl ((hT k).2 (.inr (.inl h)))⟩
    ·exact⟨by omega,.inl ((hT k).2 (.inr (.inr h)))⟩
   have left:∀(c:Code) (S':Nat->Prop) (B:World),Ix c i S' B->Own S S' A2 B->∃v w',(Instr.endRound L (some c)).run Tryz.prog B=.ok v w'/\nI J Jx i T A (.returned v) w':=fun c S' B hx hO=>by
    obtain⟨hr,hSL',hSD',hl4,hk4,hM4,hz4,ho4⟩:=fin (some c) S' B hO;refine⟨_,_,hr,.inr ⟨rfl,fun k=>S' k\/k=L\/k=D,?_,hM4,own' (some c) S' B hO⟩⟩;rw[hJx];exact⟨c,S',hIx c i S' B _ hx ho4 (hput _ hSL'),fun q=>Iff.rfl,hSL',hSD',hl4,hk4,fun k hk'=>by rw[World.putObj_size];exact ho4 k hk',by rw[World.putObj_size];exact hz4⟩
   rintro e a3 B hp
   cases e with
   | normal =>
    obtain⟨S',hi3,hO⟩:=hp;obtain⟨hr,hSL',hSD',hl4,hk4,hM4,hz4,ho4⟩:=fin none S' B hO;refine⟨_,_,hr,.inl ⟨rfl,fun k=>S' k\/k=L\/k=D,?_,hM4,own' none S' B hO⟩⟩;rw[hJ];exact⟨S',hI (i+1) S' B _ hi3 ho4 (hput _ hSL'),fun q=>Iff.rfl,hSL',hSD',hl4,hk4,fun k hk'=>by rw[World.putObj_size];exact ho4 k hk',by rw[World.putObj_size];exact hz4⟩
   | ret=>obtain⟨S',hx,hO⟩:=hp;exact left _ S' B hx hO
   | exit id=>obtain⟨S',hx,hO⟩:=hp;exact left _ S' B hx hO
   | goto t=>obtain⟨S',hx,hO⟩:=hp;exact left _ S' B hx hO
   | panic ch=>exact hp.elim
   | outgrown=>exact hp.elim
  ·rintro e B ⟨⟨v,rfl⟩,T,hJJ,hM,hTo⟩;have hz:=hM.size
   have back:∀S,(∀q,T q↔S q\/q=L\/q=D)->¬S L->¬S D->∀o,Own S0 S w (B.putObj L o):=fun S hT hSL hSD o=>by
    refine⟨((hs1.mods S0).trans' hM (fun q hq=>?_)).putObj (.inr (by omega)) o,fun k hk=>?_⟩
    ·rcases hq with h|h|h
     ·exact .inl h
     ·exact .inr (by omega)
     ·exact .inr (by omega)
    ·rw[World.putObj_size];obtain⟨h1,h2⟩:=hTo k ((hT k).2 (.inl hk));refine⟨h1,?_⟩;rcases h2 with(h|h|h)|h
     ·exact .inl h
     ·exact absurd (h ▸ hk) hSL
     ·exact absurd (h ▸ hk) hSD
     ·exact .inr (by omega)
   rcases hJJ with hj|⟨i,hiN,hx⟩
   ·rw[hJ]at hj;obtain⟨S,hi,hT,hSL,hSD,hl,hk,ho,hzz⟩:=hj;have hr:=run_endLoop (P:=Tryz.prog) hl (by rw[hrec];simp);rw[hrec]at hr;refine⟨none,_,hr,?_⟩;exact hdone D S _ (by omega) (hI _ S B _ hi ho (hput _ hSL)) (back S hT hSL hSD _) hSD ((World.putObj_heap_other (by omega)).trans hk)
   ·rw[hJx]at hx;obtain⟨c,S,hi,hT,hSL,hSD,hl,hk,ho,hzz⟩:=hx;have hr:=run_endLoop (P:=Tryz.prog) hl (by rw[hrec];simp);rw[hrec]at hr;refine⟨some c,_,hr,?_⟩;exact hstop D i c S _ (by omega) hiN (hIx c _ S B _ hi ho (hput _ hSL)) (back S hT hSL hSD _) hSD ((World.putObj_heap_other (by omega)).trans hk)
def K6(J:Nat->HF->Prop)(i:Nat)(F:HF)(A:World):Exit->Act->World->Prop
 | .normal,_,B=>∃F',J (i+1) F'/\Turns F F' A B
 | .ret,_,_=>False
 | .exit _,_,_=>False
 | .goto _,_,_=>False
 | .panic _,_,_=>False
 | .outgrown,_,_=>False
theorem Ee{n:Nat}{g:Operand}{p:Tmp}{assign body:Code}{Q:Exit->Act->World->Prop}{a:Act}{w:World}(box d off cap:Nat)(a0:Option Addr)(data:List UInt8)(hg:a.eval g=.func (.func 90) #[] #[.pointer (some ⟨box,0,none⟩)])(ha:0<data.length->a0=some ⟨d,off,none⟩)(hcap:data.length<=cap)(hmax:data.length<=140737488351232)(hbox:w.heap[box]?=some (.cells #[.slice a0 data.length cap] 35 (0,0)))(hd:eN w d off data)(hdw:d≠w.heap.size/\d≠w.heap.size+1)(J:Nat->HF->Prop)(F0:HF)(h0:J 0 F0)(hs:Sat w F0)(hSb:box∉dom F0)(hSd:d∉dom F0)(a₁:Nat->Act)(hassign:∀(l i:Nat) (W:World) (K:Act->World->Prop),K (a₁ i) W ->
   assign.wpIn (FW.inRound l) n Tryz.prog (Exit.then K (fun _ _ _=>False)) { tmps:=a.tmps.setIfInBounds p (fX d off data i),defers:=[] } W)(hbody:∀(l i:Nat) (F:HF) (A:World),i<(aE data).length->J i F->Sat A F->eN A d off data->d∉dom F->w.heap.size<=A.heap.size ->
   body.wpIn (FW.inRound l) n Tryz.prog (K6 J i F A) (a₁ i) A)(hdone:∀(D:Nat) (F:HF) (B:World),w.heap.size<=D->J (aE data).length F->Turns F0 F w B->D∉dom F->B.heap[D]?=some (.deferred (some [])) ->
   Q .normal { a with defers:={ target:=.collected D,args:=#[] }::a.defers } B):
  (Code.rangeFunc g #[p] assign body).wpIn FW (n+1+1) Tryz.prog Q a w:=by
 refine GS box d off cap a0 data hg ha hcap hmax hbox hd hdw (fun i S A=>∃F,J i F/\Sat A F/\∀q,S q↔q∈dom F) (fun _ _ _ _=>False) (fun q=>q∈dom F0) hSb hSd (fun k hk=>hs.lt hk) ⟨F0,h0,hs,fun _=>Iff.rfl⟩
  ?_ (fun _ _ _ _ _ h=>h.elim) a₁ hassign ?_ ?_ (fun _ _ _ _ _ _ _ h=>h.elim)
 ·rintro i S A B ⟨F,hJ,hF,hS⟩ hlt hM;exact⟨F,hJ,hF.frame hM (fun b hb hn=>hn ((hS b).2 hb)),hS⟩
 ·rintro l i S A hi ⟨F,hJ,hF,hS⟩ hdA hlt hSd' hle;refine wpIn_mono (hbody l i F A hi hJ hF hdA (fun h=>hSd' ((hS d).2 h)) hle) ?_;intro e a3 B hp
  cases e with
  | normal =>
   obtain⟨F',hJ',hT⟩:=hp;refine⟨fun q=>q∈dom F',⟨F',hJ',hT.sat,fun _=>Iff.rfl⟩,hT.mods.mono (fun b hb=>.inl ((hS b).2 hb)),fun k hk=>⟨hT.sat.lt hk,?_⟩⟩;rcases hT.fresh k hk with h|h
   ·exact .inl ((hS k).2 h)
   ·exact .inr h
  | _=>exact hp.elim
 ·rintro D S B hD ⟨F,hJ,hF,hS⟩ hO hSD hK;exact hdone D F B hD hJ ⟨hO.1,hF,fun b hb=>(hO.2 b ((hS b).2 hb)).2⟩ (fun h=>hSD ((hS D).2 h)) hK
theorem nf{P:Program}{fn:Func}{p q:Tmp}{t1 t2:TypeId}(h:fn.results=#[.cell p t1,.cell q t2])(tmps:Array Value)(w:World)(b c:Nat)(u v:Value){d1 d2:TypeDesc}(hu1:P.underlying t1=some d1)(hd1:kJ d1=true)(hu2:P.underlying t2=some d2)(hd2:kJ d2=true)(hp:tmps.getD p undef=.pointer (some ⟨b,0,none⟩))(hq:tmps.getD q undef=.pointer (some ⟨c,0,none⟩))(hb:w.cell? ⟨b,0,none⟩=some u)(hc:w.cell? ⟨c,0,none⟩=some v):
  (results fn tmps).run P w=.ok (.tuple #[u,v]) w:=by
 have hp':tmps[p]?.getD undef=.pointer (some ⟨b,0,none⟩):=by simpa using hp
 have hq':tmps[q]?.getD undef=.pointer (some ⟨c,0,none⟩):=by simpa using hq
 have e1:(loadVar t1 ⟨b,0,none⟩).run P w=.ok u w:=by
  cases d1<;>simp[kJ]at hd1<;>simp[loadVar,isAgg,underlying,hu1,Result.andThen,hb]
 have e2:(loadVar t2 ⟨c,0,none⟩).run P w=.ok v w:=by
  cases d2<;>simp[kJ]at hd2<;>simp[loadVar,isAgg,underlying,hu2,Result.andThen,hc]
 simp[results,h,hp',hq',asAddr,e1,e2]
structure RecL where
 val:Value
 bytes:Bs
def fp(v:Value)(l:List RecL):HF:=bK 35 1 v (l.map (·.val)).length (l.map (·.val))++l.flatMap fun r=>aA r.val r.bytes
def K7(v:Value)(l:List RecL):Prop:=et 1 v (l.map (·.val)).length (l.map (·.val))/\∀r∈l,bOk r.val r.bytes
end
section
open Go.RowKit Go.Maps Go.Shelf
theorem it(has:List Bs)(c:Bs):∀(l acc:List Bs),bX has acc (l++[c])=if c∈has\/c∈bX has acc l then bX has acc l else bX has acc l++[c]
 | [],acc=>by simp only[nil_append,bX];congr
 | x::l,acc=>by
  simp only[cons_append,bX]
  split<;>exact it has c l _
theorem jq(has:List Bs):∀(l acc:List Bs),∀c∈bX has acc l,c∈acc\/(c∈l/\c∉has)
 | [],acc=>fun c h=>.inl h
 | x::l,acc=>fun c h=>by
  simp only[bX]at h
  split at h
  ·rcases jq has l acc c h with h'|⟨h1,h2⟩
   ·exact .inl h'
   ·exact .inr ⟨mem_cons_of_mem _ h1,h2⟩
  ·rename_i hn
   rcases jq has l _ c h with h'|⟨h1,h2⟩
   ·rcases mem_append.1 h' with h'|h'
    ·exact .inl h'
    ·simp only[mem_singleton]at h';subst h';exact .inr ⟨by simp,fun hh=>hn (.inl hh)⟩
   ·exact .inr ⟨mem_cons_of_mem _ h1,h2⟩
theorem jg(has:List Bs):∀(l acc:List Bs),acc.Nodup->(bX has acc l).Nodup
 | [],acc,h=>h
 | x::l,acc,h=>by
  simp only[bX]
  split
  ·exact jg has l acc h
  ·rename_i hn
   refine jg has l _ (nodup_append.2 ⟨h,by simp,?_⟩)
   intro a ha b hb e
   simp only[mem_singleton]at hb
   exact hn (.inr (hb ▸ e ▸ ha))
theorem kI(has:List Bs):∀(l acc:List Bs),(bX has acc l).length<=acc.length+l.length
 | [],acc=>by simp[bX]
 | x::l,acc=>by
  simp only[bX]
  split
  ·have:=kI has l acc;simp;omega
  ·have:=kI has l (acc++[x]);simp at this ⊢;omega
def ge(q:Nat×Nat):Value:=.agg #[.int .i64 q.1,.int .i64 q.2]
def bt:Nat->Nat->List Bs->List (Ent Bs)
 | _,_,[]=>[]
 | at_,b,c::r=>⟨c,ge (at_,c.length),b⟩::bt (at_+c.length+9) (b+1) r
theorem gc:∀(l:List Bs) (at_ b:Nat),(bt at_ b l).map (·.key)=l
 | [],_,_=>rfl
 | c::r,at_,b=>by simp[bt,gc r]
theorem pf(l:List Bs)(at_ b:Nat):(bt at_ b l).length=l.length:=by
 have:=congrArg length (gc l at_ b);simpa using this
theorem ir(c:Bs)(r:List Bs):bm (c::r)=c.length+9+bm r:=rfl
theorem tU(l:List Bs)(c:Bs):bm (l++[c])=bm l+(c.length+9):=by simp[bm]
theorem oy(m:List Bs):∀(l:List Bs) (at_ b:Nat),bt at_ b (l++m)=bt at_ b l++bt (at_+bm l) (b+l.length) m
 | [],at_,b=>by simp[bt,bm]
 | c::r,at_,b=>by
  simp only[cons_append,bt,oy m r,ir,length_cons]
  rw[show at_+c.length+9+bm r=at_+(c.length+9+bm r) by omega,show b+1+r.length=b+(r.length+1) by omega]
theorem mU:∀(l:List Bs) (at_ b:Nat),∀e∈bt at_ b l,b<=e.born/\e.born<b+l.length
 | [],_,_,e,h=>by simp[bt]at h
 | c::r,at_,b,e,h=>by
  simp only[bt,mem_cons]at h
  rcases h with rfl|h
  ·simp
  ·have:=mU r _ _ e h;simp;omega
theorem qc:∀(l:List Bs) (at_ b:Nat),((bt at_ b l).map (·.born)).Nodup
 | [],_,_=>by simp[bt]
 | c::r,at_,b=>by
  simp only[bt,map_cons,nodup_cons]
  refine⟨fun h=>?_,qc r _ _⟩
  obtain⟨e,he,hb⟩:=mem_map.1 h
  have:=mU r _ _ e he
  omega
theorem wT{l:List Bs}(h:l.Nodup)(hs:∀c∈l,OkS c)(at_:Nat):MapOk OkS (bt at_ 0 l) l.length where
 nodup:=by rw[gc];exact h
 borns:=qc l at_ 0
 lt:=fun e he=>by have:=mU l at_ 0 e he;omega
 ok:=fun e he=>hs _ (by rw[<- gc l at_ 0];exact mem_map.2 ⟨e,he,rfl⟩)
theorem pg:∀(l:List Bs) (at_ b:Nat),∀e∈bt at_ b l,∃q,(e.key,q)∈b8 at_ l/\e.val=ge q
 | [],_,_,e,h=>by simp[bt]at h
 | c::r,at_,b,e,h=>by
  simp only[bt,mem_cons]at h
  rcases h with rfl|h
  ·exact⟨_,mem_cons_self,rfl⟩
  ·obtain⟨q,h1,h2⟩:=pg r _ _ e h
   exact⟨q,mem_cons_of_mem _ h1,h2⟩
theorem tV:∀(l:List Bs) (at_ b:Nat),(bt at_ b l).map (fun e=>(e.key,e.val))=(b8 at_ l).map (fun p=>(p.1,ge p.2))
 | [],_,_=>rfl
 | c::r,at_,b=>by simp[bt,b8,tV r]
theorem lS(l:List Bs)(at_ b:Nat)(c:Bs):iv (bt at_ b l) c=decide (c∈l):=by
 rw[Bool.eq_iff_iff,iw,decide_eq_true_eq];have hk:=gc l at_ b;constructor
 ·rintro⟨e,he,rfl⟩;rw[<- hk];exact mem_map.2 ⟨e,he,rfl⟩
 ·intro h;rw[<- hk]at h;obtain⟨e,he,h2⟩:=mem_map.1 h;exact⟨e,he,h2⟩
theorem Db{l:List Bs}{at_ b:Nat}{c:Bs}(h:c∈l):∃q,(c,q)∈b8 at_ l/\dz (bt at_ b l) c=some (ge q):=by
 have h1:=lS l at_ b c;rw[decide_eq_true h,gM]at h1
 cases hg:dz (bt at_ b l) c with
 | none=>rw[hg]at h1;cases h1
 | some v =>
  obtain⟨e,he,hk,hv⟩:=lr hg;obtain⟨q,hq,h2⟩:=pg l at_ b e he;exact⟨q,hk ▸ hq,by rw[<- hv,h2]⟩
theorem Dc{l:List Bs}{at_:Nat}{c:Bs}(h:c∉l):gF (bt at_ 0 l) l.length c (ge (at_+bm l,c.length))=bt at_ 0 (l++[c])/\cf (bt at_ 0 l) l.length c=(l++[c]).length:=by
 have h1:=lS l at_ 0 c;rw[decide_eq_false h]at h1;unfold gF cf;rw[h1,oy];simp[bt]
theorem rY(l:List Bs)(c:Bs)(at_:Nat):b8 at_ (l++[c])=b8 at_ l++[(c,at_+bm l,c.length)]:=by rw[vI];rfl
theorem bS(D:Bs):(au D).length=(aE D).length:=cA _ _
def oW(D:Bs)(i:Nat):Bs:=(D.drop ((aE D).take i).sum).take ((aE D).getD i 0)
theorem fG{D:Bs}{i:Nat}(h:i<(aE D).length):(au D).take (i+1)=(au D).take i++[oW D i]:=by
 have h':i<(au D).length:=by rw[bS];exact h
 have e:(au D)[i]=(D.drop ((aE D).take i).sum).take (aE D)[i]:=jc _ _ _ h;rw[QH h',e];unfold oW;simp[getD_eq_getElem?_getD,h]
theorem nl(l:List Nat)(i:Nat)(h:i<l.length):(l.take i).sum+l[i]<=l.sum:=by
 conv=>rhs;rw[<- take_append_drop (i+1) l,sum_append,QH h,sum_append]
 simp
theorem tC{D:Bs}{i:Nat}(h:i<(aE D).length):(oW D i).length=(aE D).getD i 0:=by
 have h1:=nl (aE D) i h;rw[gY]at h1;unfold oW;rw[length_take,length_drop];simp only[getD_eq_getElem?_getD,h,getElem?_eq_getElem,Option.getD_some];omega
theorem yi{w:World}{d off:Nat}{D:Bs}{i:Nat}(hD:eN w d off D)(h:i<(aE D).length):ak w (some ⟨d,off+((aE D).take i).sum,none⟩) ((oW D i).map al):=fun _=>by
 refine⟨d,_,rfl,fun j hj=>?_⟩
 have hl:=tC h
 have h1:=nl (aE D) i h
 rw[gY]at h1
 have e:(aE D).getD i 0=(aE D)[i]:=by simp[getD_eq_getElem?_getD,h]
 rw[length_map,hl,e]at hj
 have:=hD (((aE D).take i).sum+j) (by omega)
 rw[<- Nat.add_assoc]at this
 rw[this]
 simp[oW,al]
def cq(n:Int):Obj:=.cells #[.int .i64 n] 3 (0,0)
def dh(a:Nat):Obj:=.cells #[.pointer (some ⟨a,0,none⟩)] 33 (0,0)
def e8(v:Value):Obj:=.cells #[v] 30 (0,0)
def cU(b:Nat):Obj:=.cells #[.pointer (some ⟨b,0,none⟩)] 114 (0,0)
def cT(v:Value):Obj:=.cells #[v] 36 (0,0)
def dX(b:Nat):Obj:=.cells #[.map (some b)] 119 (0,0)
def Hh(S:AS)(D:Bs)(B9 B11 B12 B13 Bm Bv num:Nat)(R:HF)(i:Nat)(F:HF):Prop :=
 ∃(sp:List (Nat×Nat×Nat)) (acc:List Bs) (fv rv:Value) (chs:List (Nat×Nat)) (recs:List RecL),
  acc=bX (S.K.map (·.1)) [] ((au D).take i)/\AreaOk { S.A with spare:=sp }/\recs.map (·.bytes)=acc.map (frame 1)/\K7 rv recs/\bP fv chs/\chs.length=i /\
  (∀e∈((au D).take i).zip chs,e∈S.K++b8 S.data.length acc) /\
  F=(B13,Is (cq ((S.data.length+bm acc:Nat):Int)))::(B12,Is (dX Bm))::(Bm,Is (aO str (bt S.data.length 0 acc) acc.length))::(B11,Is (cT rv)) ::
   (fp rv recs++((B9,Is (cU Bv))::(bL ⟨Bv,num,D.length,fv,chs,0⟩++(R++arF { S with A:={ S.A with spare:=sp } }))))
theorem LI{l:List Bs}{chs:List (Nat×Nat)}{c:Bs}{q:Nat×Nat}{T T':List (Bs×Nat×Nat)}(hl:l.length=chs.length)(h:∀e∈l.zip chs,e∈T)(hT:∀e∈T,e∈T')(hq:(c,q)∈T'):∀e∈(l++[c]).zip (chs++[q]),e∈T':=by
 intro e he;rw[zip_append hl]at he;rcases mem_append.1 he with h'|h'
 ·exact hT e (h e h')
 ·simp only[zip_cons_cons,zip_nil_right,mem_singleton]at h';subst h';exact hq
theorem dD{D:Bs}{c:Bs}(h:c∈au D):c.length<=D.length:=by
 obtain⟨i,hi,rfl⟩:=mem_iff_getElem.1 h;have hi':i<(aE D).length:=by rw[<- bS];exact hi
 have e:(au D)[i]=(D.drop ((aE D).take i).sum).take (aE D)[i]:=jc _ _ _ hi';rw[e,length_take,length_drop];omega
theorem Ll{S:AS}{D:Bs}{i:Nat}(hD:D.length<=4000):∀c∈bX (S.K.map (·.1)) [] ((au D).take i),OkS c:=fun c hc=>by
 rcases jq _ _ _ c hc with h|⟨h,_⟩
 ·simp at h
 ·have:=dD (mem_of_mem_take h)
  unfold OkS;omega
theorem qb:∀(l:List Bs) (m:Nat),(∀c∈l,c.length<=m)->bm l<=l.length*(m+9)
 | [],_,_=>by simp[bm]
 | c::r,m,h=>by
  have h1:=h c (by simp)
  have h2:=qb r m (fun x hx=>h x (by simp[hx]))
  rw[ir,length_cons,Nat.add_mul]
  omega
def qR:Code->Option (Code×Code)
 | .rangeFunc _ _ a b=>some (a,b)
 | .seq a b=>match qR a with|some r=>some r|none=>qR b
 | .block _ c=>qR c
 | .scope c=>qR c
 | _=>none
def Jf:Code->Option Code
 | .seq a b=>if(qR a).isSome then some b else Jf b
 | _=>none
noncomputable def Kw:Code:=((Tryz.f13.body.bind qR).map (·.2)).getD .skip
noncomputable def Ky:Code:=(Tryz.f13.body.bind Jf).getD .skip
end
section
open Go.RowKit Go.Maps
def xu(v:Value):Obj:=.cells #[v] 35 (0,0)
theorem Gj{v:Value}{l:List (Nat×Nat)}(h:bP v l){w:World}(hs:Sat w (aY v l)):v.oneCell'=true/\v.cells=#[v]:=by
 obtain⟨sl,cap,rfl,_⟩:=fd hs h;exact⟨rfl,rfl⟩
theorem nN{w:World}{v:Value}{l:Bs}(h:bOk v l)(hs:Sat w (aA v l)):v.oneCell'=true/\v.cells=#[v]/\∃a cap,v=.slice a l.length cap:=by
 obtain⟨a,cap,rfl,_⟩:=aL (cZ hs h);exact⟨rfl,rfl,a,cap,rfl⟩
theorem EU{w:World}{e:Nat}{v:Value}{l:List Value}(hs:Sat w (bK e 1 v l.length l))(h:et 1 v l.length l):v.oneCell'=true/\v.cells=#[v]:=by
 obtain⟨a,cap,rfl,_⟩:=aL (aR hs h);exact⟨rfl,rfl⟩
theorem ER{lb n:Nat}(F1 Z:HF)(A:World)(B15 B9 Bv:Nat)(VV:VerL)(q:Nat×Nat)(fv:Value)(chs:List (Nat×Nat)){Q:Exit->Act->World->Prop}{w:World}{u0 u1 u2 u3 u4 u5 u6 u7 u8 aS aT ab ad ag aj ar av ax a0 a1 a2 a3 a4 a5 a6 a7 a8 a9 bY bg bj bk bo bs bx b0 b1 b2 b3 b4 b6 b7 b9 ca cb cc ch ci cj cl cm cp cs ct cu cx c0 c1 c2 c3 c4 c5 c6 c7 c8 dO dT df dn dp dv d0 d1 d2 d3 d4 d5 d6 d7 d8 eA eC eQ eR eU eW eX ea eb eg el em en ep es ev e0 e1 e2 e3 e4 e5 e6 e7 e9 fE fl fn fr fs fz f0 f1 f2 f3 f4 f5 f6 f7 f8 f9 gD gb gg gp gq gs gu gv gx g2 g3 g4 g5 g6 g7 g9 hA hB hC hD hE hF hG hH hI hJ hK hL hM hN hO hP hQ hR hS hU hV hW hX hY hZ ha hb hc hd he hf hg hh hi hj hl hm hn:Value}{ds:List Deferred}(hT:Turns F1 ((B15,Is (aB q))::(B9,Is (cU Bv))::(Bv,Is (dt VV))::(aY fv chs++Z)) A w)(hpo:bP fv chs)(hcv:VV.cv=fv)(hcl:chs.length<=100000)(hQo:¬LetsOut Q)(hk:∀(ho hp hq hr hs ht hw hx hy hz:Value) (w':World),bP hx (chs++[q])->Turns F1 ((Bv,Is (.cells ((fD VV).setIfInBounds 2 hx) 117 (0,0)))::(B15,Is (aB q))::(B9,Is (cU Bv))::(aY hx (chs++[q])++Z)) A w'->Q .normal { tmps:=#[u0,u1,u2,u3,u4,u5,u6,u7,u8,.pointer (some ⟨B9,0,none⟩),aS,aT,ab,ad,ag,.pointer (some ⟨B15,0,none⟩),aj,ar,av,ax,a0,a1,a2,a3,a4,a5,a6,a7,a8,a9,bY,bg,bj,bk,bo,bs,bx,b0,b1,b2,b3,b4,b6,b7,b9,ca,cb,cc,ch,ci,cj,cl,cm,cp,cs,ct,cu,cx,c0,c1,c2,c3,c4,c5,c6,c7,c8,dO,dT,df,dn,dp,dv,d0,d1,d2,d3,d4,d5,d6,d7,d8,eA,eC,eQ,eR,eU,eW,eX,ea,eb,eg,el,em,en,ep,es,ev,e0,e1,e2,e3,e4,e5,e6,e7,e9,fE,fl,fn,fr,fs,fz,f0,f1,f2,f3,f4,f5,f6,f7,f8,f9,gD,gb,gg,gp,gq,gs,ho,hp,hq,hr,hs,ht,hw,hx,hy,hz,hA,hB,hC,hD,hE,hF,hG,hH,hI,hJ,hK,hL,hM,hN,hO,hP,hQ,hR,hS,hU,hV,hW,hX,hY,hZ,ha,hb,hc,hd,he,hf,hg,hh,hi,hj,hl,hm,hn],defers:=ds } w'):
  (Jd 28 Tryz.f13).wpIn (Fence.wide.inRound lb) n Tryz.prog Q { tmps:=#[u0,u1,u2,u3,u4,u5,u6,u7,u8,.pointer (some ⟨B9,0,none⟩),aS,aT,ab,ad,ag,.pointer (some ⟨B15,0,none⟩),aj,ar,av,ax,a0,a1,a2,a3,a4,a5,a6,a7,a8,a9,bY,bg,bj,bk,bo,bs,bx,b0,b1,b2,b3,b4,b6,b7,b9,ca,cb,cc,ch,ci,cj,cl,cm,cp,cs,ct,cu,cx,c0,c1,c2,c3,c4,c5,c6,c7,c8,dO,dT,df,dn,dp,dv,d0,d1,d2,d3,d4,d5,d6,d7,d8,eA,eC,eQ,eR,eU,eW,eX,ea,eb,eg,el,em,en,ep,es,ev,e0,e1,e2,e3,e4,e5,e6,e7,e9,fE,fl,fn,fr,fs,fz,f0,f1,f2,f3,f4,f5,f6,f7,f8,f9,gD,gb,gg,gp,gq,gs,gu,gv,gx,g2,g3,g4,g5,g6,g7,g9,hA,hB,hC,hD,hE,hF,hG,hH,hI,hJ,hK,hL,hM,hN,hO,hP,hQ,hR,hS,hU,hV,hW,hX,hY,hZ,ha,hb,hc,hd,he,hf,hg,hh,hi,hj,hl,hm,hn],defers:=ds } w:=by
 conv=>arg 4;whnf
 refine vi [([0,1,2,3,4,5],6,[0,1,2,3,4]),([],7,[0]),([8,9],10,[])] [] HM.out (by kernel_rfl) hQo (by kernel_rfl) fun W tW=>?_
 simp only[Mix,map_cons,map_nil,nth,QG,QF];have hT1:=tW hT;clear tW;have g:∀{W:World},W.heap[B9]?=some (cU Bv)->W.heap[Bv]?=some (dt VV)->W.cell? ⟨B9,0,none⟩=some (.pointer (some ⟨Bv,0,none⟩))/\W.cell? ⟨Bv,2,none⟩=some fv:=fun h1 h2=>⟨aa h1 0 rfl,aa h2 2 (by rw[<- hcv];rfl)⟩
 obtain⟨g0,g1⟩:=g (hT1.sat.Q7 (by simp)) (hT1.sat.Q7 (by simp));repeat still_step
 refine iL 128 (.tmp 15) rfl rfl B15 0 rfl [.int .i64 q.1,.int .i64 q.2] _ (fun j v hv=>aa hT1.sat.Q5 (0+j) (by rw[Nat.zero_add,<- Array.getElem?_toList];exact hv)) Tryz.underlying128 rfl (by kernel_rfl) (wpStill_nil ?_);refine i8 (aB q) (fun n=>.slice (some ⟨n,0,none⟩) 1 1) (by kernel_rfl) hT1 fun n W2 hT2=>⟨by(obtain⟨g0,g1⟩:=g (hT2.sat.Q7 (by simp)) (hT2.sat.Q7 (by simp));(repeat still_step);exact rfl),wpStill_nil ?_⟩
 refine kR (.tmp 133) (.tmp 135) rfl fv chs rfl (hT2.to (H:=aY fv chs++((n,Is (aB q))::(B15,Is (aB q))::(B9,Is (cU Bv))::(Bv,Is (dt VV))::Z)) ac) hpo (some ⟨n,0,none⟩) 1 1 rfl [q] rfl (fun _=>⟨_,rfl,fun j u hu=>by
  rw[Addr.add_lit,Nat.zero_add];exact aa hT2.sat.Q5 j (by rw[<- Array.getElem?_toList];exact hu)⟩) (by simp;omega) fun v1 W3 h1 hT3=>⟨by(obtain⟨g0,g1⟩:=g (hT3.sat.Q7 (by simp)) (hT3.sat.Q7 (by simp));(repeat still_step);exact rfl),?_⟩
 simp only[Act.put,QA,QB,QC];repeat still_step
 have p1:=Gj h1 hT3.sat.left;refine wpStill_nil (bb 115 (.tmp 138) (.tmp 136) rfl Bv 2 (fD VV) 117 v1 (hT3.to (H:=(Bv,Is (dt VV))::(aY v1 (chs++[q])++((n,Is (aB q))::(B15,Is (aB q))::(B9,Is (cU Bv))::Z))) ac) rfl rfl (by simp[fD]) (by kernel_rfl) p1.1 p1.2 fun W4 hT4=>⟨rfl,?_⟩);simp only[Act.put];exact hk _ _ _ _ _ _ _ _ _ _ W4 h1 (hT4.drop bB)
end
end Go.Proofs.YtdhobpbngkainabGreatDoor
