/-
  'versionslaw.Flips' answers true at every input, and leaves its arguments as they were. Conditions: none of ours (the given statement's own: errors.errorType as the program's text lays it).
-/
import Derived.Test.YtdhobpbngkainaaGreatDoorFl08
set_option maxRecDepth 100000
set_option maxHeartbeats 4000000
namespace Go.Proofs.YtdhobpbngkainaaGreatDoor
open List
section
open Go.RowKit Go.Maps
def io(w0:World)(S:AS)(Φ:Int->AS->Prop)(f:FuncId)(args:Array Value)(two:Bool):Prop :=
 ∀W G,Turns [] (arF S++G) w0 W->Calls Tryz.prog f args W (fun e w'=>∃k ev n S',e=.returned (if two then .tuple #[.int .i64 k,ev]else ev)/\KW ev n/\Φ n S'/\Turns (arF S) (arF S') W w')
def Me(w0:World)(S:AS)(o:OpL)(Φ:Int->AS->Prop):Prop :=
 (o.kind=1->io w0 S Φ 25 #[.pointer (some ⟨S.a,0,none⟩),str o.s,o.dv] true) /\
 (o.kind=9->io w0 S Φ 62 #[.pointer (some ⟨S.a,0,none⟩),str o.s,.int .i64 o.a] false) /\
 (o.kind=10->io w0 S Φ 64 #[.pointer (some ⟨S.a,0,none⟩),str o.s,.int .i64 o.a] true) /\
 (o.kind=11->io w0 S Φ 66 #[.pointer (some ⟨S.a,0,none⟩),str o.t,str o.s,.int .i64 o.a] false) /\
 (o.kind=12->io w0 S Φ 68 #[.pointer (some ⟨S.a,0,none⟩),str o.t] false) /\
 (o.kind=6->io w0 S Φ 47 #[.pointer (some ⟨S.a,0,none⟩)] false) /\
 (o.kind=14->io w0 S Φ 71 #[.pointer (some ⟨S.a,0,none⟩)] false) /\
 (¬o.kind=1->¬o.kind=9->¬o.kind=10->¬o.kind=11->¬o.kind=12->¬o.kind=6->¬o.kind=14->Φ 0 S)
def kH(w0:World)(Φ:Int->AS->Prop)(x:Nat)(so:Obj)(G:HF)(e:Ending)(w':World):Prop :=
 ∃n S',e=.returned (.int .i64 n)/\Φ n S'/\Turns [] (arF S'++((x,Is so)::G)) w0 w'
theorem zW(S:AS)(x:Nat)(dp:Value)(q:Int)(hb:Nat)(o:OpL)(G:HF)(w0 W:World)(hk:o.kind=1)(h:Turns [] (arF S++((x,Is (aZ dp (aA S.a) q hb))::G)) w0 W)(hdv:o.dv.oneCell'=true)(hdc:o.dv.cells=#[o.dv])(Φ:Int->AS->Prop)(hE:cG w0)(hD:io w0 S Φ 25 #[.pointer (some ⟨S.a,0,none⟩),str o.s,o.dv] true):
  Calls Tryz.prog 39 #[.pointer (some ⟨x,0,none⟩),opA o] W (kH w0 Φ x (aZ dp (aA S.a) q hb) G):=by
 obtain⟨ok,oa,ob_,oc,os,ot,odv,od⟩:=o;simp only at hk hdv hdc hD;subst hk;have HH:=Hq3 h hE hD;have HD:=Hq2 hdv hdc;clear h hE hD;unfold opA opV;go_enter Tryz.func39,Tryz.ntmps39;go_upto_region 4 with(fail);obtain⟨ob,hob⟩:∃ob,ob=W.heap.size:=⟨_,rfl⟩
 have hT1:Turns [] (arF S++((ob,Is (oO ⟨1,oa,ob_,oc,os,ot,odv,od⟩))::(x,Is (aZ dp (aA S.a) q hb))::G)) w0 (W.alloc (.cells #[.int .i64 1,.int .i64 oa,.int .i64 ob_,.int .i64 oc,str os,str ot,odv] 65)):=by
  rw[hob];exact(HH.a.Q8 (oO ⟨1,oa,ob_,oc,os,ot,odv,od⟩)).to (H:=arF S++((W.heap.size,Is (oO ⟨1,oa,ob_,oc,os,ot,odv,od⟩))::(x,Is (aZ dp (aA S.a) q hb))::G)) ae
 rw[<- hob];generalize W.alloc (.cells #[.int .i64 1,.int .i64 oa,.int .i64 ob_,.int .i64 oc,str os,str ot,odv] 65)=W1 at hT1 ⊢;have hx:W1.heap[x]?=some (aZ dp (aA S.a) q hb):=hT1.sat.Q7 (by simp);have ho:W1.heap[ob]?=some (oO ⟨1,oa,ob_,oc,os,ot,odv,od⟩):=hT1.sat.Q7 (by simp);have u1:W1.cell? ⟨x,1,none⟩=some (.pointer (some ⟨S.a,0,none⟩)):=aa hx 1 rfl;have o1:W1.cell? ⟨ob,1,none⟩=some (.int .i64 oa):=aa ho 1 rfl;have o4:W1.cell? ⟨ob,4,none⟩=some (str os):=aa ho 4 rfl;have o5:W1.cell? ⟨ob,5,none⟩=some (str ot):=aa ho 5 rfl;have o6:W1.cell? ⟨ob,6,none⟩=some odv:=aa ho 6 rfl;have xl:=ac hx;have ol:=ac ho;have HT1:=qqH hT1;clear hT1 hob hx ho;refine jq 8 HM.out (by kernel_rfl) rfl ?_;simp only[QE,take_zero];repeat still_step
 refine wpStill_nil ?_;have HO:=qqH (HH.y W1.drew _ HT1.out.drew);refine bw (by kernel_rfl) HO.out ?_;rintro e W3 ⟨k,ev,n,S',he,hev,hph,hG⟩;have he:e=.returned (.tuple #[.int .i64 k,ev]):=he;subst he;refine⟨_,rfl,?_⟩;simp only[Act.put,QA,QB,QC,QD,drop_zero];repeat still_step
 refine wpStill_nil ?_;have hT3:=HT1.out.drew.step (Perm.refl _) hG;have HTe:=qqH (bQ ev n W3 (HH.b.keep hT3.mods (fun h=>by simp at h)) (hev.is W3));have HT3:=Hq2 hT3 hph;clear hT3 hph hev hG u1 o1 o4 o5 o6;go_wp2_with fail;refine HTe.out.mono ?_;rintro e W4 ⟨rfl,hs4⟩;have hT4:=((HT3.a.Q9 hs4).drop (H:=arF S'++((x,Is (aZ dp (aA S.a) q hb))::G)) (fun y=>by simp only[ah,ao];omega));have HT4:=qqH hT4;clear hT4 hs4;go_wp2_with fail;go_ret;exact⟨n,S',rfl,HT3.z,HT4.out⟩
theorem tK(S:AS)(x:Nat)(dp:Value)(q:Int)(hb:Nat)(o:OpL)(G:HF)(w0 W:World)(hk:o.kind=9)(h:Turns [] (arF S++((x,Is (aZ dp (aA S.a) q hb))::G)) w0 W)(hdv:o.dv.oneCell'=true)(hdc:o.dv.cells=#[o.dv])(Φ:Int->AS->Prop)(hE:cG w0)(hD:io w0 S Φ 62 #[.pointer (some ⟨S.a,0,none⟩),str o.s,.int .i64 o.a] false):
  Calls Tryz.prog 39 #[.pointer (some ⟨x,0,none⟩),opA o] W (kH w0 Φ x (aZ dp (aA S.a) q hb) G):=by
 obtain⟨ok,oa,ob_,oc,os,ot,odv,od⟩:=o;simp only at hk hdv hdc hD;subst hk;have HH:=Hq3 h hE hD;have HD:=Hq2 hdv hdc;clear h hE hD;unfold opA opV;go_enter Tryz.func39,Tryz.ntmps39;go_upto_region 6 with(fail);obtain⟨ob,hob⟩:∃ob,ob=W.heap.size:=⟨_,rfl⟩
 have hT1:Turns [] (arF S++((ob,Is (oO ⟨9,oa,ob_,oc,os,ot,odv,od⟩))::(x,Is (aZ dp (aA S.a) q hb))::G)) w0 (W.alloc (.cells #[.int .i64 9,.int .i64 oa,.int .i64 ob_,.int .i64 oc,str os,str ot,odv] 65)):=by
  rw[hob];exact(HH.a.Q8 (oO ⟨9,oa,ob_,oc,os,ot,odv,od⟩)).to (H:=arF S++((W.heap.size,Is (oO ⟨9,oa,ob_,oc,os,ot,odv,od⟩))::(x,Is (aZ dp (aA S.a) q hb))::G)) ae
 rw[<- hob];generalize W.alloc (.cells #[.int .i64 9,.int .i64 oa,.int .i64 ob_,.int .i64 oc,str os,str ot,odv] 65)=W1 at hT1 ⊢;have hx:W1.heap[x]?=some (aZ dp (aA S.a) q hb):=hT1.sat.Q7 (by simp);have ho:W1.heap[ob]?=some (oO ⟨9,oa,ob_,oc,os,ot,odv,od⟩):=hT1.sat.Q7 (by simp);have u1:W1.cell? ⟨x,1,none⟩=some (.pointer (some ⟨S.a,0,none⟩)):=aa hx 1 rfl;have o1:W1.cell? ⟨ob,1,none⟩=some (.int .i64 oa):=aa ho 1 rfl;have o4:W1.cell? ⟨ob,4,none⟩=some (str os):=aa ho 4 rfl;have o5:W1.cell? ⟨ob,5,none⟩=some (str ot):=aa ho 5 rfl;have o6:W1.cell? ⟨ob,6,none⟩=some odv:=aa ho 6 rfl;have xl:=ac hx;have ol:=ac ho;have HT1:=qqH hT1;clear hT1 hob hx ho;refine wp_region_still_tail 8 HM.out (by kernel_rfl) ?_;simp only[QE,take_zero,QD,drop_zero];repeat still_step
 refine wpStill_nil ?_;change wpList _ _ _ _ _ W1.drew;have HO:=qqH (HH.y W1.drew _ HT1.out.drew);go_wp2_with fail;refine HO.out.mono ?_;rintro e W3 ⟨k,ev,n,S',he,hev,hph,hG⟩;have he:e=.returned ev:=he;subst he;have hT3:=HT1.out.drew.step (Perm.refl _) hG;have HTe:=qqH (bQ ev n W3 (HH.b.keep hT3.mods (fun h=>by simp at h)) (hev.is W3));have HT3:=Hq2 hT3 hph;clear hT3 hph hev hG u1 o1 o4 o5 o6;go_wp2_with fail;refine HTe.out.mono ?_;rintro e W4 ⟨rfl,hs4⟩;have hT4:=((HT3.a.Q9 hs4).drop (H:=arF S'++((x,Is (aZ dp (aA S.a) q hb))::G)) (fun y=>by simp only[ah,ao];omega));have HT4:=qqH hT4;clear hT4 hs4;go_wp2_with fail;go_ret;exact⟨n,S',rfl,HT3.z,HT4.out⟩
theorem vp(S:AS)(x:Nat)(dp:Value)(q:Int)(hb:Nat)(o:OpL)(G:HF)(w0 W:World)(hk:o.kind=10)(h:Turns [] (arF S++((x,Is (aZ dp (aA S.a) q hb))::G)) w0 W)(hdv:o.dv.oneCell'=true)(hdc:o.dv.cells=#[o.dv])(Φ:Int->AS->Prop)(hE:cG w0)(hD:io w0 S Φ 64 #[.pointer (some ⟨S.a,0,none⟩),str o.s,.int .i64 o.a] true):
  Calls Tryz.prog 39 #[.pointer (some ⟨x,0,none⟩),opA o] W (kH w0 Φ x (aZ dp (aA S.a) q hb) G):=by
 obtain⟨ok,oa,ob_,oc,os,ot,odv,od⟩:=o;simp only at hk hdv hdc hD;subst hk;have HH:=Hq3 h hE hD;have HD:=Hq2 hdv hdc;clear h hE hD;unfold opA opV;go_enter Tryz.func39,Tryz.ntmps39;go_upto_region 8 with(fail);obtain⟨ob,hob⟩:∃ob,ob=W.heap.size:=⟨_,rfl⟩
 have hT1:Turns [] (arF S++((ob,Is (oO ⟨10,oa,ob_,oc,os,ot,odv,od⟩))::(x,Is (aZ dp (aA S.a) q hb))::G)) w0 (W.alloc (.cells #[.int .i64 10,.int .i64 oa,.int .i64 ob_,.int .i64 oc,str os,str ot,odv] 65)):=by
  rw[hob];exact(HH.a.Q8 (oO ⟨10,oa,ob_,oc,os,ot,odv,od⟩)).to (H:=arF S++((W.heap.size,Is (oO ⟨10,oa,ob_,oc,os,ot,odv,od⟩))::(x,Is (aZ dp (aA S.a) q hb))::G)) ae
 rw[<- hob];generalize W.alloc (.cells #[.int .i64 10,.int .i64 oa,.int .i64 ob_,.int .i64 oc,str os,str ot,odv] 65)=W1 at hT1 ⊢;have hx:W1.heap[x]?=some (aZ dp (aA S.a) q hb):=hT1.sat.Q7 (by simp);have ho:W1.heap[ob]?=some (oO ⟨10,oa,ob_,oc,os,ot,odv,od⟩):=hT1.sat.Q7 (by simp);have u1:W1.cell? ⟨x,1,none⟩=some (.pointer (some ⟨S.a,0,none⟩)):=aa hx 1 rfl;have o1:W1.cell? ⟨ob,1,none⟩=some (.int .i64 oa):=aa ho 1 rfl;have o4:W1.cell? ⟨ob,4,none⟩=some (str os):=aa ho 4 rfl;have o5:W1.cell? ⟨ob,5,none⟩=some (str ot):=aa ho 5 rfl;have o6:W1.cell? ⟨ob,6,none⟩=some odv:=aa ho 6 rfl;have xl:=ac hx;have ol:=ac ho;have HT1:=qqH hT1;clear hT1 hob hx ho;refine jq 8 HM.out (by kernel_rfl) rfl ?_;simp only[QE,take_zero];repeat still_step
 refine wpStill_nil ?_;have HO:=qqH (HH.y W1.drew _ HT1.out.drew);refine bw (by kernel_rfl) HO.out ?_;rintro e W3 ⟨k,ev,n,S',he,hev,hph,hG⟩;have he:e=.returned (.tuple #[.int .i64 k,ev]):=he;subst he;refine⟨_,rfl,?_⟩;simp only[Act.put,QA,QB,QC,QD,drop_zero];repeat still_step
 refine wpStill_nil ?_;have hT3:=HT1.out.drew.step (Perm.refl _) hG;have HTe:=qqH (bQ ev n W3 (HH.b.keep hT3.mods (fun h=>by simp at h)) (hev.is W3));have HT3:=Hq2 hT3 hph;clear hT3 hph hev hG u1 o1 o4 o5 o6;go_wp2_with fail;refine HTe.out.mono ?_;rintro e W4 ⟨rfl,hs4⟩;have hT4:=((HT3.a.Q9 hs4).drop (H:=arF S'++((x,Is (aZ dp (aA S.a) q hb))::G)) (fun y=>by simp only[ah,ao];omega));have HT4:=qqH hT4;clear hT4 hs4;go_wp2_with fail;go_ret;exact⟨n,S',rfl,HT3.z,HT4.out⟩
theorem zX(S:AS)(x:Nat)(dp:Value)(q:Int)(hb:Nat)(o:OpL)(G:HF)(w0 W:World)(hk:o.kind=11)(h:Turns [] (arF S++((x,Is (aZ dp (aA S.a) q hb))::G)) w0 W)(hdv:o.dv.oneCell'=true)(hdc:o.dv.cells=#[o.dv])(Φ:Int->AS->Prop)(hE:cG w0)(hD:io w0 S Φ 66 #[.pointer (some ⟨S.a,0,none⟩),str o.t,str o.s,.int .i64 o.a] false):
  Calls Tryz.prog 39 #[.pointer (some ⟨x,0,none⟩),opA o] W (kH w0 Φ x (aZ dp (aA S.a) q hb) G):=by
 obtain⟨ok,oa,ob_,oc,os,ot,odv,od⟩:=o;simp only at hk hdv hdc hD;subst hk;have HH:=Hq3 h hE hD;have HD:=Hq2 hdv hdc;clear h hE hD;unfold opA opV;go_enter Tryz.func39,Tryz.ntmps39;go_upto_region 10 with(fail);obtain⟨ob,hob⟩:∃ob,ob=W.heap.size:=⟨_,rfl⟩
 have hT1:Turns [] (arF S++((ob,Is (oO ⟨11,oa,ob_,oc,os,ot,odv,od⟩))::(x,Is (aZ dp (aA S.a) q hb))::G)) w0 (W.alloc (.cells #[.int .i64 11,.int .i64 oa,.int .i64 ob_,.int .i64 oc,str os,str ot,odv] 65)):=by
  rw[hob];exact(HH.a.Q8 (oO ⟨11,oa,ob_,oc,os,ot,odv,od⟩)).to (H:=arF S++((W.heap.size,Is (oO ⟨11,oa,ob_,oc,os,ot,odv,od⟩))::(x,Is (aZ dp (aA S.a) q hb))::G)) ae
 rw[<- hob];generalize W.alloc (.cells #[.int .i64 11,.int .i64 oa,.int .i64 ob_,.int .i64 oc,str os,str ot,odv] 65)=W1 at hT1 ⊢;have hx:W1.heap[x]?=some (aZ dp (aA S.a) q hb):=hT1.sat.Q7 (by simp);have ho:W1.heap[ob]?=some (oO ⟨11,oa,ob_,oc,os,ot,odv,od⟩):=hT1.sat.Q7 (by simp);have u1:W1.cell? ⟨x,1,none⟩=some (.pointer (some ⟨S.a,0,none⟩)):=aa hx 1 rfl;have o1:W1.cell? ⟨ob,1,none⟩=some (.int .i64 oa):=aa ho 1 rfl;have o4:W1.cell? ⟨ob,4,none⟩=some (str os):=aa ho 4 rfl;have o5:W1.cell? ⟨ob,5,none⟩=some (str ot):=aa ho 5 rfl;have o6:W1.cell? ⟨ob,6,none⟩=some odv:=aa ho 6 rfl;have xl:=ac hx;have ol:=ac ho;have HT1:=qqH hT1;clear hT1 hob hx ho;refine wp_region_still_tail 10 HM.out (by kernel_rfl) ?_;simp only[QE,take_zero,QD,drop_zero];repeat still_step
 refine wpStill_nil ?_;change wpList _ _ _ _ _ W1.drew;have HO:=qqH (HH.y W1.drew _ HT1.out.drew);go_wp2_with fail;refine HO.out.mono ?_;rintro e W3 ⟨k,ev,n,S',he,hev,hph,hG⟩;have he:e=.returned ev:=he;subst he;have hT3:=HT1.out.drew.step (Perm.refl _) hG;have HTe:=qqH (bQ ev n W3 (HH.b.keep hT3.mods (fun h=>by simp at h)) (hev.is W3));have HT3:=Hq2 hT3 hph;clear hT3 hph hev hG u1 o1 o4 o5 o6;go_wp2_with fail;refine HTe.out.mono ?_;rintro e W4 ⟨rfl,hs4⟩;have hT4:=((HT3.a.Q9 hs4).drop (H:=arF S'++((x,Is (aZ dp (aA S.a) q hb))::G)) (fun y=>by simp only[ah,ao];omega));have HT4:=qqH hT4;clear hT4 hs4;go_wp2_with fail;go_ret;exact⟨n,S',rfl,HT3.z,HT4.out⟩
theorem vr(S:AS)(x:Nat)(dp:Value)(q:Int)(hb:Nat)(o:OpL)(G:HF)(w0 W:World)(hk:o.kind=12)(h:Turns [] (arF S++((x,Is (aZ dp (aA S.a) q hb))::G)) w0 W)(hdv:o.dv.oneCell'=true)(hdc:o.dv.cells=#[o.dv])(Φ:Int->AS->Prop)(hE:cG w0)(hD:io w0 S Φ 68 #[.pointer (some ⟨S.a,0,none⟩),str o.t] false):
  Calls Tryz.prog 39 #[.pointer (some ⟨x,0,none⟩),opA o] W (kH w0 Φ x (aZ dp (aA S.a) q hb) G):=by
 obtain⟨ok,oa,ob_,oc,os,ot,odv,od⟩:=o;simp only at hk hdv hdc hD;subst hk;have HH:=Hq3 h hE hD;have HD:=Hq2 hdv hdc;clear h hE hD;unfold opA opV;go_enter Tryz.func39,Tryz.ntmps39;go_upto_region 12 with(fail);obtain⟨ob,hob⟩:∃ob,ob=W.heap.size:=⟨_,rfl⟩
 have hT1:Turns [] (arF S++((ob,Is (oO ⟨12,oa,ob_,oc,os,ot,odv,od⟩))::(x,Is (aZ dp (aA S.a) q hb))::G)) w0 (W.alloc (.cells #[.int .i64 12,.int .i64 oa,.int .i64 ob_,.int .i64 oc,str os,str ot,odv] 65)):=by
  rw[hob];exact(HH.a.Q8 (oO ⟨12,oa,ob_,oc,os,ot,odv,od⟩)).to (H:=arF S++((W.heap.size,Is (oO ⟨12,oa,ob_,oc,os,ot,odv,od⟩))::(x,Is (aZ dp (aA S.a) q hb))::G)) ae
 rw[<- hob];generalize W.alloc (.cells #[.int .i64 12,.int .i64 oa,.int .i64 ob_,.int .i64 oc,str os,str ot,odv] 65)=W1 at hT1 ⊢;have hx:W1.heap[x]?=some (aZ dp (aA S.a) q hb):=hT1.sat.Q7 (by simp);have ho:W1.heap[ob]?=some (oO ⟨12,oa,ob_,oc,os,ot,odv,od⟩):=hT1.sat.Q7 (by simp);have u1:W1.cell? ⟨x,1,none⟩=some (.pointer (some ⟨S.a,0,none⟩)):=aa hx 1 rfl;have o1:W1.cell? ⟨ob,1,none⟩=some (.int .i64 oa):=aa ho 1 rfl;have o4:W1.cell? ⟨ob,4,none⟩=some (str os):=aa ho 4 rfl;have o5:W1.cell? ⟨ob,5,none⟩=some (str ot):=aa ho 5 rfl;have o6:W1.cell? ⟨ob,6,none⟩=some odv:=aa ho 6 rfl;have xl:=ac hx;have ol:=ac ho;have HT1:=qqH hT1;clear hT1 hob hx ho;refine wp_region_still_tail 6 HM.out (by kernel_rfl) ?_;simp only[QE,take_zero,QD,drop_zero];repeat still_step
 refine wpStill_nil ?_;change wpList _ _ _ _ _ W1.drew;have HO:=qqH (HH.y W1.drew _ HT1.out.drew);go_wp2_with fail;refine HO.out.mono ?_;rintro e W3 ⟨k,ev,n,S',he,hev,hph,hG⟩;have he:e=.returned ev:=he;subst he;have hT3:=HT1.out.drew.step (Perm.refl _) hG;have HTe:=qqH (bQ ev n W3 (HH.b.keep hT3.mods (fun h=>by simp at h)) (hev.is W3));have HT3:=Hq2 hT3 hph;clear hT3 hph hev hG u1 o1 o4 o5 o6;go_wp2_with fail;refine HTe.out.mono ?_;rintro e W4 ⟨rfl,hs4⟩;have hT4:=((HT3.a.Q9 hs4).drop (H:=arF S'++((x,Is (aZ dp (aA S.a) q hb))::G)) (fun y=>by simp only[ah,ao];omega));have HT4:=qqH hT4;clear hT4 hs4;go_wp2_with fail;go_ret;exact⟨n,S',rfl,HT3.z,HT4.out⟩
theorem xU(S:AS)(x:Nat)(dp:Value)(q:Int)(hb:Nat)(o:OpL)(G:HF)(w0 W:World)(hk:o.kind=6)(h:Turns [] (arF S++((x,Is (aZ dp (aA S.a) q hb))::G)) w0 W)(hdv:o.dv.oneCell'=true)(hdc:o.dv.cells=#[o.dv])(Φ:Int->AS->Prop)(hE:cG w0)(hD:io w0 S Φ 47 #[.pointer (some ⟨S.a,0,none⟩)] false):
  Calls Tryz.prog 39 #[.pointer (some ⟨x,0,none⟩),opA o] W (kH w0 Φ x (aZ dp (aA S.a) q hb) G):=by
 obtain⟨ok,oa,ob_,oc,os,ot,odv,od⟩:=o;simp only at hk hdv hdc hD;subst hk;have HH:=Hq3 h hE hD;have HD:=Hq2 hdv hdc;clear h hE hD;unfold opA opV;go_enter Tryz.func39,Tryz.ntmps39;go_upto_region 14 with(fail);obtain⟨ob,hob⟩:∃ob,ob=W.heap.size:=⟨_,rfl⟩
 have hT1:Turns [] (arF S++((ob,Is (oO ⟨6,oa,ob_,oc,os,ot,odv,od⟩))::(x,Is (aZ dp (aA S.a) q hb))::G)) w0 (W.alloc (.cells #[.int .i64 6,.int .i64 oa,.int .i64 ob_,.int .i64 oc,str os,str ot,odv] 65)):=by
  rw[hob];exact(HH.a.Q8 (oO ⟨6,oa,ob_,oc,os,ot,odv,od⟩)).to (H:=arF S++((W.heap.size,Is (oO ⟨6,oa,ob_,oc,os,ot,odv,od⟩))::(x,Is (aZ dp (aA S.a) q hb))::G)) ae
 rw[<- hob];generalize W.alloc (.cells #[.int .i64 6,.int .i64 oa,.int .i64 ob_,.int .i64 oc,str os,str ot,odv] 65)=W1 at hT1 ⊢;have hx:W1.heap[x]?=some (aZ dp (aA S.a) q hb):=hT1.sat.Q7 (by simp);have ho:W1.heap[ob]?=some (oO ⟨6,oa,ob_,oc,os,ot,odv,od⟩):=hT1.sat.Q7 (by simp);have u1:W1.cell? ⟨x,1,none⟩=some (.pointer (some ⟨S.a,0,none⟩)):=aa hx 1 rfl;have o1:W1.cell? ⟨ob,1,none⟩=some (.int .i64 oa):=aa ho 1 rfl;have o4:W1.cell? ⟨ob,4,none⟩=some (str os):=aa ho 4 rfl;have o5:W1.cell? ⟨ob,5,none⟩=some (str ot):=aa ho 5 rfl;have o6:W1.cell? ⟨ob,6,none⟩=some odv:=aa ho 6 rfl;have xl:=ac hx;have ol:=ac ho;have HT1:=qqH hT1;clear hT1 hob hx ho;have HO:=qqH (HH.y W1 _ HT1.out);go_wp2_with fail;refine HO.out.mono ?_;rintro e W3 ⟨k,ev,n,S',he,hev,hph,hG⟩;have he:e=.returned ev:=he;subst he;have hT3:=HT1.out.step (Perm.refl _) hG;have HTe:=qqH (bQ ev n W3 (HH.b.keep hT3.mods (fun h=>by simp at h)) (hev.is W3));have HT3:=Hq2 hT3 hph;clear hT3 hph hev hG u1 o1 o4 o5 o6;go_wp2_with fail;refine HTe.out.mono ?_;rintro e W4 ⟨rfl,hs4⟩;have hT4:=((HT3.a.Q9 hs4).drop (H:=arF S'++((x,Is (aZ dp (aA S.a) q hb))::G)) (fun y=>by simp only[ah,ao];omega));have HT4:=qqH hT4;clear hT4 hs4;go_wp2_with fail;go_ret;exact⟨n,S',rfl,HT3.z,HT4.out⟩
theorem sk(S:AS)(x:Nat)(dp:Value)(q:Int)(hb:Nat)(o:OpL)(G:HF)(w0 W:World)(hk:o.kind=14)(h:Turns [] (arF S++((x,Is (aZ dp (aA S.a) q hb))::G)) w0 W)(hdv:o.dv.oneCell'=true)(hdc:o.dv.cells=#[o.dv])(Φ:Int->AS->Prop)(hE:cG w0)(hD:io w0 S Φ 71 #[.pointer (some ⟨S.a,0,none⟩)] false):
  Calls Tryz.prog 39 #[.pointer (some ⟨x,0,none⟩),opA o] W (kH w0 Φ x (aZ dp (aA S.a) q hb) G):=by
 obtain⟨ok,oa,ob_,oc,os,ot,odv,od⟩:=o;simp only at hk hdv hdc hD;subst hk;have HH:=Hq3 h hE hD;have HD:=Hq2 hdv hdc;clear h hE hD;unfold opA opV;go_enter Tryz.func39,Tryz.ntmps39;go_upto_region 16 with(fail);obtain⟨ob,hob⟩:∃ob,ob=W.heap.size:=⟨_,rfl⟩
 have hT1:Turns [] (arF S++((ob,Is (oO ⟨14,oa,ob_,oc,os,ot,odv,od⟩))::(x,Is (aZ dp (aA S.a) q hb))::G)) w0 (W.alloc (.cells #[.int .i64 14,.int .i64 oa,.int .i64 ob_,.int .i64 oc,str os,str ot,odv] 65)):=by
  rw[hob];exact(HH.a.Q8 (oO ⟨14,oa,ob_,oc,os,ot,odv,od⟩)).to (H:=arF S++((W.heap.size,Is (oO ⟨14,oa,ob_,oc,os,ot,odv,od⟩))::(x,Is (aZ dp (aA S.a) q hb))::G)) ae
 rw[<- hob];generalize W.alloc (.cells #[.int .i64 14,.int .i64 oa,.int .i64 ob_,.int .i64 oc,str os,str ot,odv] 65)=W1 at hT1 ⊢;have hx:W1.heap[x]?=some (aZ dp (aA S.a) q hb):=hT1.sat.Q7 (by simp);have ho:W1.heap[ob]?=some (oO ⟨14,oa,ob_,oc,os,ot,odv,od⟩):=hT1.sat.Q7 (by simp);have u1:W1.cell? ⟨x,1,none⟩=some (.pointer (some ⟨S.a,0,none⟩)):=aa hx 1 rfl;have o1:W1.cell? ⟨ob,1,none⟩=some (.int .i64 oa):=aa ho 1 rfl;have o4:W1.cell? ⟨ob,4,none⟩=some (str os):=aa ho 4 rfl;have o5:W1.cell? ⟨ob,5,none⟩=some (str ot):=aa ho 5 rfl;have o6:W1.cell? ⟨ob,6,none⟩=some odv:=aa ho 6 rfl;have xl:=ac hx;have ol:=ac ho;have HT1:=qqH hT1;clear hT1 hob hx ho;have HO:=qqH (HH.y W1 _ HT1.out);go_wp2_with fail;refine HO.out.mono ?_;rintro e W3 ⟨k,ev,n,S',he,hev,hph,hG⟩;have he:e=.returned ev:=he;subst he;have hT3:=HT1.out.step (Perm.refl _) hG;have HTe:=qqH (bQ ev n W3 (HH.b.keep hT3.mods (fun h=>by simp at h)) (hev.is W3));have HT3:=Hq2 hT3 hph;clear hT3 hph hev hG u1 o1 o4 o5 o6;go_wp2_with fail;refine HTe.out.mono ?_;rintro e W4 ⟨rfl,hs4⟩;have hT4:=((HT3.a.Q9 hs4).drop (H:=arF S'++((x,Is (aZ dp (aA S.a) q hb))::G)) (fun y=>by simp only[ah,ao];omega));have HT4:=qqH hT4;clear hT4 hs4;go_wp2_with fail;go_ret;exact⟨n,S',rfl,HT3.z,HT4.out⟩
theorem Ig(S:AS)(x:Nat)(dp:Value)(q:Int)(hb:Nat)(o:OpL)(G:HF)(w0 W:World)(h:Turns [] (arF S++((x,Is (aZ dp (aA S.a) q hb))::G)) w0 W)(hdv:o.dv.oneCell'=true)(hdc:o.dv.cells=#[o.dv])(Φ:Int->AS->Prop)(hE:cG w0)(hD:Me w0 S o Φ):
  Calls Tryz.prog 39 #[.pointer (some ⟨x,0,none⟩),opA o] W (kH w0 Φ x (aZ dp (aA S.a) q hb) G):=by
 by_cases q1:o.kind=1
 ·exact zW S x dp q hb o G w0 W q1 h hdv hdc Φ hE (hD.1 q1)
 by_cases q9:o.kind=9
 ·exact tK S x dp q hb o G w0 W q9 h hdv hdc Φ hE (hD.2.1 q9)
 by_cases q10:o.kind=10
 ·exact vp S x dp q hb o G w0 W q10 h hdv hdc Φ hE (hD.2.2.1 q10)
 by_cases q11:o.kind=11
 ·exact zX S x dp q hb o G w0 W q11 h hdv hdc Φ hE (hD.2.2.2.1 q11)
 by_cases q12:o.kind=12
 ·exact vr S x dp q hb o G w0 W q12 h hdv hdc Φ hE (hD.2.2.2.2.1 q12)
 by_cases q6:o.kind=6
 ·exact xU S x dp q hb o G w0 W q6 h hdv hdc Φ hE (hD.2.2.2.2.2.1 q6)
 by_cases q14:o.kind=14
 ·exact sk S x dp q hb o G w0 W q14 h hdv hdc Φ hE (hD.2.2.2.2.2.2.1 q14)
 have HF:=hD.2.2.2.2.2.2.2 q1 q9 q10 q11 q12 q6 q14;obtain⟨ok,oa,ob_,oc,os,ot,odv,od⟩:=o;simp only at hdv hdc q1 q9 q10 q11 q12 q6 q14;have HH:=Hq3 h hE HF;have HD:=Hq2 hdv hdc;clear h hE hD HF;unfold opA opV;go_enter Tryz.func39,Tryz.ntmps39;have hT1:Turns [] (arF S++((x,Is (aZ dp (aA S.a) q hb))::G)) w0 (W.alloc (.cells #[.int .i64 ok,.int .i64 oa,.int .i64 ob_,.int .i64 oc,str os,str ot,odv] 65)):=HH.a.alloc _;have HTe:=qqH (bQ .nilIface 0 _ (HH.b.keep hT1.mods (fun h=>by simp at h)) (.inl ⟨rfl,rfl⟩));have HT1:=qqH hT1;clear hT1;go_wp2_with fail;refine HTe.out.mono ?_;rintro e W4 ⟨rfl,hs4⟩;have HT4:=qqH (HT1.out.Q9 hs4);clear hs4;go_wp2_with fail;go_ret;exact⟨0,S,rfl,HH.y,HT4.out⟩
def ThT(R:RefL)(P:dE)(o:OpL)(n:Int)(R':RefL)(P':dE):Prop :=
 (o.kind=1/\LH R P o.s o.d n R' P')\/(o.kind=9/\P'=P/\LC R o.s o.a n R')\/(o.kind=10/\P'=P/\LF R o.s o.a n R')\/(o.kind=11/\P'=P/\LK R o.t o.s o.a n R')\/(o.kind=12/\P'=P/\LM R o.t n R') \/
 (¬o.kind=1/\¬o.kind=9/\¬o.kind=10/\¬o.kind=11/\¬o.kind=12/\n=0/\R'=R/\P'=P)
def DoA(S:AS)(b:Nat)(o:OpL)(n:Int)(S':AS):Prop :=
 (o.kind=1/\LG S o.s o.d b n S')\/(o.kind=9/\LB S o.s o.a n S')\/(o.kind=10/\LE S o.s o.a n S')\/(o.kind=11/\LJ S o.t o.s o.a n S')\/(o.kind=12/\LL S o.t n S') \/
 (o.kind=6/\n=0/\∃L',ni S.L L'/\S'=js S L')\/(o.kind=14/\n=0/\CollectIs S S') \/
 (¬o.kind=1/\¬o.kind=9/\¬o.kind=10/\¬o.kind=11/\¬o.kind=12/\¬o.kind=6/\¬o.kind=14/\n=0/\S'=S)
theorem Dk(P:dE)(v:Value)(D:Bs):bh (P++[(v,D)])=bh P++aI v D:=by
 unfold bh;rw[flatMap_append];simp
theorem OpOk.cells'{w0:World}{o:OpL}(h:OpOk w0 o):o.dv.oneCell'=true/\o.dv.cells=#[o.dv]:=by
 obtain⟨sl,cap,e,-⟩:=h.dv;rw[e];exact⟨rfl,rfl⟩
theorem Gy{X:WS}{k m N:Nat}(hp:PB X k m N)(la:LA X)(ro:RefOk X.R)(pok:gO X.P)(inp:gY X.P X.R){o:OpL}{G:HF}{w0 W:World}(h:Turns [] ((aN X.R++bh X.P)++G) w0 W)(ho:OpOk w0 o)(hk:k<=400)(hm:m+o.d.length<=60000):
  Calls Tryz.prog 38 #[.pointer (some ⟨X.R.blk,0,none⟩),opA o] W (fun e w'=>∃n R' P',e=.returned (.int .i64 n)/\ThT X.R X.P o n R' P'/\Turns [] ((aN R'++bh P')++G) w0 w'):=by
 obtain⟨c1,c2⟩:=ho.cells';have hvs:=hp.vs;have hts:=hp.ts;have hra:∀{W:World} {G:HF},Turns [] ((aN X.R++bh X.P)++G) w0 W->RefAt X.R X.P W:=fun hT=>⟨hT.sat.left.left,ro,hT.sat.left.right,pok,inp,by omega,fun v hv=>by have:=(la.link.each v hv).2.2;omega⟩
 have hsm:=C0 la.link (show X.R.ts.length<=100000 by omega);have hone:=fun v (hv:v∈X.R.vs)=>(la.link.each v hv).1
 have hte:∀t∈X.R.ts,∃k:Nat,k<X.R.vs.length/\bW X.R.vs t.path t.num X.R.vs.length=k:=fun t ht=>by
  obtain⟨-,v,hv,e1,e2⟩:=la.link.teach t ht;obtain⟨i,hi,-,hbe,-⟩:=lD la.link.uniq hone hv;rw[e1,e2]at hbe;exact⟨i,hi,hbe⟩
 refine yI X.R X.P o G w0 W h c1 c2 (ThT X.R X.P o) (fun hkd W G hT=>?_) (fun hkd W G hT=>?_) (fun hkd W G hT=>?_) (fun hkd W G hT=>?_) (fun hkd W G hT=>?_) (fun h1 h9 h10 h11 h12=>.inr (.inr (.inr (.inr (.inr ⟨h1,h9,h10,h11,h12,rfl,rfl,rfl⟩)))))
 ·obtain⟨sl,cap,e,-,-,hc⟩:=ho.dv;rw[e];refine(Dw X.R X.P o.s o.d sl cap W (hra hT) (Kc la.link hp.b (by omega)) (hc.Qc hT (fun x _ h=>by simp at h)) (by omega)).mono ?_;rintro e w' (⟨n,rfl,hs,hn⟩|⟨a1,a2,a3,a4,vv',cv,rfl,hcv,hro,hG⟩)
  ·exact⟨0,n,rfl,X.R,X.P,.inl ⟨hkd,.inl ⟨rfl,rfl,hn⟩⟩,(Turns.refl hT.sat.left).Q9 hs⟩
  ·refine⟨_,0,rfl,_,_,.inl ⟨hkd,.inr ⟨rfl,a1,a2,a3,a4,vv',cv,hcv,hro,rfl,rfl⟩⟩,?_⟩;rw[Dk];exact(hG.frame (R:=bh X.P) hT.sat.left).to ae
 ·refine(og X.R X.P o.s o.a W (hra hT)).mono ?_;rintro e w' (⟨n,h1,rfl,hG⟩|⟨v,h1,h2,rfl,hG⟩|⟨i,vv,hi,h1,h2,h3,rfl,h4,hG⟩)
  ·exact⟨0,n,rfl,_,_,.inr (.inl ⟨hkd,rfl,.inl ⟨rfl,.inl h1⟩⟩),hG.frame hT.sat.left⟩
  ·exact⟨0,5,rfl,_,_,.inr (.inl ⟨hkd,rfl,.inl ⟨rfl,.inr ⟨rfl,v,h1,h2⟩⟩⟩),hG.frame hT.sat.left⟩
  ·exact⟨0,0,rfl,_,_,.inr (.inl ⟨hkd,rfl,.inr ⟨rfl,i,vv,hi,h1,h3,h4,rfl⟩⟩),hG.frame hT.sat.left⟩
 ·refine(yu X.R X.P o.s o.a W (hra hT) hT.sat.left (by have:=ho.a;unfold I63 at this;exact this)).mono ?_;rintro e w' (⟨n,h1,rfl,hG⟩|⟨v,h1,vs',c,vv,h2,rfl,h3,hG⟩)
  ·exact⟨0,n,rfl,_,_,.inr (.inr (.inl ⟨hkd,rfl,.inl ⟨rfl,h1⟩⟩)),hG⟩
  ·exact⟨_,0,rfl,_,_,.inr (.inr (.inl ⟨hkd,rfl,.inr ⟨rfl,v,vs',c,vv,h1,h2,h3,rfl⟩⟩)),hG⟩
 ·refine(Dx X.R X.P o.t o.s o.a W (hra hT) hT.sat.left (by omega) hsm).mono ?_;rintro e w' (⟨n,rfl,hG,h1⟩|⟨h1,h2,h3,i,tv,hi,h4,-,rfl,h5,hG⟩)
  ·exact⟨0,n,rfl,_,_,.inr (.inr (.inr (.inl ⟨hkd,rfl,.inl ⟨rfl,h1⟩⟩))),hG.frame hT.sat.left⟩
  ·exact⟨0,0,rfl,_,_,.inr (.inr (.inr (.inl ⟨hkd,rfl,.inr ⟨rfl,h1,h2,h3,i,tv,hi,h4,h5,rfl⟩⟩))),hG⟩
 ·refine(yv X.R X.P o.t W (hra hT) hT.sat.left (by omega) hsm hte).mono ?_;rintro e w' (⟨n,rfl,hG,h1⟩|⟨h1,h2,i,j,tv,hi,h3,h4,h5,rfl,h6,hG⟩)
  ·exact⟨0,n,rfl,_,_,.inr (.inr (.inr (.inr (.inl ⟨hkd,rfl,.inl ⟨rfl,h1⟩⟩)))),hG.frame hT.sat.left⟩
  ·exact⟨0,0,rfl,_,_,.inr (.inr (.inr (.inr (.inl ⟨hkd,rfl,.inr ⟨rfl,h1,h2,i,j,tv,hi,h3,h4,h5,h6,rfl⟩⟩)))),hG⟩
theorem LP{X:WS}{k m N:Nat}(hp:PB X k m N)(la:LA X)(hcl:X.S.X.closed=false){o:OpL}{x hb:Nat}{dp:Value}{q:Int}{G:HF}{w0 W:World}(h:Turns [] (arF X.S++((x,Is (aZ dp (aA X.S.a) q hb))::G)) w0 W)(hE:cG w0)(ho:OpOk w0 o)(hk:k<=400)(hm:m+o.d.length<=60000):
  Calls Tryz.prog 39 #[.pointer (some ⟨x,0,none⟩),opA o] W (kH w0 (DoA X.S (m+2*k) o) x (aZ dp (aA X.S.a) q hb) G):=by
 obtain⟨c1,c2⟩:=ho.cells';have hvs:=hp.vs;have hbb:m+2*k<=90000:=by omega
 have hvl:(af X.S.ps o.s).length<=15000:=by
  have h1:=congrArg length (la.link.vers o.s);rw[length_map,length_map]at h1;have h2:(aD X.R.vs o.s).length<=X.R.vs.length:=length_filter_le _ _;omega
 refine Ig X.S x dp q hb o G w0 W h c1 c2 (DoA X.S (m+2*k) o) hE ⟨fun hkd W G hT=>?_,fun hkd W G hT=>?_,fun hkd W G hT=>?_,fun hkd W G hT=>?_,fun hkd W G hT=>?_,fun hkd W G hT=>?_,fun hkd W G hT=>?_,fun h1 h9 h10 h11 h12 h6 h14=>.inr (.inr (.inr (.inr (.inr (.inr (.inr ⟨h1,h9,h10,h11,h12,h6,h14,rfl,rfl⟩))))))⟩
 ·obtain⟨sl,cap,e,hcap,-,hc⟩:=ho.dv;rw[e];have hs:=ho.s;refine(vO X.S o.s o.d sl cap (m+2*k) W hT.sat.left la.ar hp.b hbb (hc.Qc hT (fun x _ h=>by simp at h)) hcap (by omega) (fun hne y hy hd=>?_) (by omega) (by have:=hp.q;omega)).mono ?_
  ·obtain⟨g,off,e1,hcc⟩:=hc (by rw[length_map];exact length_pos_iff.2 hne);rw[hy]at e1;obtain rfl:=Option.some.inj e1;have h1:=World.block_lt_of_cell? w0 _ (hcc 0 (by rw[length_map];exact length_pos_iff.2 hne));have h2:=hT.newLe (b:=g) (by rw[cJ];exact mem_append_left _ hd);simp only[]at h1;omega
  ·rintro e w' (⟨n,rfl,hG,h1⟩|⟨h1,h2,h3,h4,⟨sp,chs,rfl,h5,hG,-⟩|⟨S',V,rfl,h5,h6,h7,hG⟩⟩)
   ·exact⟨0,_,n,X.S,rfl,.inr rfl,.inl ⟨hkd,.inl ⟨rfl,h1⟩⟩,hG⟩
   ·exact⟨0,_,8,_,rfl,.inr rfl,.inl ⟨hkd,.inr (.inl ⟨rfl,sp,h5,rfl⟩)⟩,hG⟩
   ·exact⟨_,_,0,S',rfl,.inl ⟨rfl,rfl⟩,.inl ⟨hkd,.inr (.inr ⟨rfl,V,h1,h2,h3,h4,h5,h6,h7⟩)⟩,hG⟩
 ·refine(xA X.S o.s o.a (m+2*k) W hT.sat.left la.ar hp.b hbb).mono ?_;rintro e w' (⟨n,hf,rfl,hG⟩|⟨V,hf,⟨hh,rfl,hG⟩|⟨hh,hrem⟩⟩)
  ·exact⟨0,_,n,X.S,rfl,.inr rfl,.inr (.inl ⟨hkd,.inl ⟨rfl,.inr (.inl hf)⟩⟩),hG⟩
  ·exact⟨0,_,5,X.S,rfl,.inr rfl,.inr (.inl ⟨hkd,.inl ⟨rfl,.inr (.inr ⟨rfl,V,hf,hh⟩)⟩⟩),hG⟩
  ·unfold jV at hrem;simp only[append_nil]at hrem;rcases hrem with⟨-,rfl,hG⟩|⟨-,rfl,v',L',hr,hv,hG⟩
   ·exact⟨0,_,8,X.S,rfl,.inr rfl,.inr (.inl ⟨hkd,.inl ⟨rfl,.inl rfl⟩⟩),hG⟩
   ·exact⟨0,_,0,_,rfl,.inl ⟨rfl,rfl⟩,.inr (.inl ⟨hkd,.inr ⟨rfl,V,v',L',hf,hh,hr,hv,rfl⟩⟩),hG⟩
 ·refine(zc X.S o.s o.a (m+2*k) W hT.sat.left la.ar hp.b hbb hvl).mono ?_;rintro e w' (⟨n,hf,rfl,hG⟩|⟨V,hf,⟨-,rfl,hG⟩|⟨-,rfl,v',L',hr,hv,hG⟩⟩)
  ·exact⟨0,_,n,X.S,rfl,.inr rfl,.inr (.inr (.inl ⟨hkd,.inl ⟨rfl,.inr hf⟩⟩)),hG⟩
  ·exact⟨0,_,8,X.S,rfl,.inr rfl,.inr (.inr (.inl ⟨hkd,.inl ⟨rfl,.inl rfl⟩⟩)),hG⟩
  ·exact⟨_,_,0,_,rfl,.inl ⟨rfl,rfl⟩,.inr (.inr (.inl ⟨hkd,.inr ⟨rfl,V,v',L',hf,hr,hv,rfl⟩⟩)),hG⟩
 ·refine(E6 X.S o.t o.s o.a (m+2*k) W hT.sat.left la.ar hp.b hbb).mono ?_;rintro e w' (⟨n,hf,rfl,hG⟩|⟨V,L',hpm,hf,hno,-,rfl,hrc,hG⟩)
  ·exact⟨0,_,n,X.S,rfl,.inr rfl,.inr (.inr (.inr (.inl ⟨hkd,.inl ⟨rfl,hf⟩⟩))),hG⟩
  ·exact⟨0,_,0,_,rfl,.inl ⟨rfl,rfl⟩,.inr (.inr (.inr (.inl ⟨hkd,.inr ⟨rfl,V,L',hpm,hf,hno,hrc,rfl⟩⟩))),hG⟩
 ·refine(zl X.S o.t (m+2*k) W hT.sat.left la.ar hp.b hbb).mono ?_;rintro e w' (⟨n,hf,rfl,hG⟩|⟨q,hq,L',hqk,hc,hpm,-,rfl,hrc,hG⟩)
  ·exact⟨0,_,n,X.S,rfl,.inr rfl,.inr (.inr (.inr (.inr (.inl ⟨hkd,.inl ⟨rfl,hf⟩⟩)))),hG⟩
  ·exact⟨0,_,0,_,rfl,.inl ⟨rfl,rfl⟩,.inr (.inr (.inr (.inr (.inl ⟨hkd,.inr ⟨rfl,q,hq,L',hqk,hc,hpm,hrc,rfl⟩⟩)))),hG⟩
 ·refine(oB X.S (m+2*k) W hT.sat.left la.ar hp.b hbb).mono ?_;rintro e w' (⟨hc,-⟩|⟨-,rfl,L',hf,hG⟩)
  ·rw[hcl]at hc;cases hc
  ·exact⟨0,_,0,_,rfl,.inl ⟨rfl,rfl⟩,.inr (.inr (.inr (.inr (.inr (.inl ⟨hkd,rfl,L',hf,rfl⟩))))),hG⟩
 ·refine(ve X.S W hT.sat.left (hp.colL la hk (by omega)) (m+2*k) hp.b hbb).mono ?_;rintro e w' (⟨hc,-⟩|⟨-,rfl,S',hci,hG⟩)
  ·rw[hcl]at hc;cases hc
  ·exact⟨0,_,0,_,rfl,.inl ⟨rfl,rfl⟩,.inr (.inr (.inr (.inr (.inr (.inr (.inl ⟨hkd,rfl,hci⟩)))))),hG⟩
theorem FO{X:WS}{k m N:Nat}(hp:PB X k m N)(la:LA X)(ro:RefOk X.R)(pok:gO X.P)(inp:gY X.P X.R){o:OpL}{n f:Int}{S':AS}{R':RefL}{P':dE}(ha:DoA X.S (m+2*k) o n S')(ht:ThT X.R X.P o f R' P')(hk:k+1<=400)(hm:m+o.d.length<=60000)(hkd:o.kind=1\/o.kind=9\/o.kind=10\/o.kind=11\/o.kind=12):dc X.S n f S'\/(n=0/\f=0/\Next X (k+1) (m+o.d.length) N S' R' P'):=by
 have hmono:∀{n f:Int} {P':dE},dc X.S n f S'\/(n=0/\f=0/\Next X (k+1) m N S' R' P')->dc X.S n f S'\/(n=0/\f=0/\Next X (k+1) (m+o.d.length) N S' R' P'):=by
  rintro n f P' (h|⟨h1,h2,h3⟩)
  ·exact .inl h
  ·obtain⟨M',h4⟩:=h3.pb;exact .inr ⟨h1,h2,{ h3 with pb:=⟨M',h4.mono (Nat.le_refl _) (Nat.le_add_right _ _)⟩ }⟩
 unfold DoA at ha;unfold ThT at ht;rcases hkd with e|e|e|e|e<;>simp only[e,Int.reduceEq,false_and,true_and,false_or,or_false,not_true,not_false_eq_true,and_false]at ha ht
 ·exact FR hp la pok inp ha ht hk hm
 ·obtain⟨rfl,ht⟩:=ht;exact hmono (FP hp la ro pok inp ha ht hk)
 ·obtain⟨rfl,ht⟩:=ht;exact hmono (FQ hp la ro pok inp ha ht hk)
 ·obtain⟨rfl,ht⟩:=ht;exact hmono (FS hp la pok inp ha ht hk (by omega))
 ·obtain⟨rfl,ht⟩:=ht;exact hmono (FT hp la pok inp ha ht hk (by omega))
def vt(x b q:Nat)(hv:Value)(Rs:List RefL)(Y:WS):HF :=
 (x,Is (aZ (aA Y.S.X.d) (aA Y.S.a) q b))::(fh b hv (Rs.map (·.blk)) 0++(Rs.flatMap aN++(bh Y.P++arF Y.S)))
structure Fil (w W:World) (x b q:Nat) (hv:Value) (Rs:List RefL) (Y:WS) (k m:Nat):Prop where
 turns:Turns [] (vt x b q hv Rs Y) w W
 his:lm hv (Rs.map (·.blk))
 pb:PB Y k m 648
 la:LA Y
 pok:gO Y.P
 refs:∀R∈Rs,RefOk R/\gY Y.P R/\R.closed=false/\R.quota=q/\R.vs.length<=k/\R.ts.length<=k/\∀v∈R.vs,v.path.length<=20/\v.cont.length<=4000
 last:∃l,Rs=l++[Y.R]
 len:Rs.length<=k+1
 told:∃rs H,Told Y.S rs H/\FlipIn Y.S rs Rs
theorem Fil.mono{w W:World}{x b q:Nat}{hv:Value}{Rs:List RefL}{Y:WS}{k m k' m':Nat}(h:Fil w W x b q hv Rs Y k m)(hk:k<=k')(hm:m<=m'):Fil w W x b q hv Rs Y k' m' :=
 { h with pb:=h.pb.mono hk hm,len:=by have:=h.len;omega,refs:=fun R hR=>by obtain⟨a,b,c,d,e,f,g⟩:=h.refs R hR;exact⟨a,b,c,d,by omega,by omega,g⟩ }
theorem Fil.back{w W W':World}{x b q:Nat}{hv:Value}{Rs:List RefL}{Y:WS}{k m:Nat}(h:Fil w W x b q hv Rs Y k m)(hT:Turns [] (vt x b q hv Rs Y) w W'):Fil w W' x b q hv Rs Y k m:={ h with turns:=hT }
theorem CQ{n:Nat}{q:Int}{d:Nat}{S:AS}(h:nm n q d S){R:RefL}(L:Link S R):FlipIn S [] [R]:=by
 have t:=mf h;obtain⟨-,-,-,-,-,-,-,-,-,-,-,-,-,s14,-,s16,s17⟩:=h;refine⟨⟨0,by omega,by rw[s14];exact s16,Nat.zero_le _,fun a b hab _=>?_⟩,.inl (by rw[s14];exact s17)⟩;obtain⟨rfl,-⟩:=append_eq_nil_iff.1 hab.symm;exact⟨R,by simp,_,t.run,LinkP.of t L⟩
theorem Hz{o:OpL}(h:nP o=true):o.kind=1\/o.kind=9\/o.kind=10\/o.kind=11\/o.kind=12:=by
 unfold nP at h;simp only[Bool.or_eq_true,decide_eq_true_eq]at h;omega
theorem sx{o:OpL}(h:o.kind=6\/o.kind=14):nP o=false:=by
 unfold nP;simp only[Bool.or_eq_false_iff,decide_eq_false_iff_not];omega
theorem ThT.pool{R:RefL}{P:dE}{o:OpL}{n:Int}{R':RefL}{P':dE}(h:ThT R P o n R' P')(pok:gO P):gO P'/\∀p∈P,p∈P':=by
 rcases h with⟨-,⟨-,rfl,-⟩|⟨-,-,-,-,-,vv,cv,hcv,-,-,rfl⟩⟩|⟨-,rfl,-⟩|⟨-,rfl,-⟩|⟨-,rfl,-⟩|⟨-,rfl,-⟩|⟨-,-,-,-,-,-,-,rfl⟩
 ·exact⟨pok,fun p hp=>hp⟩
 ·refine⟨fun p hp=>?_,fun p hp=>mem_append_left _ hp⟩;rcases mem_append.1 hp with hp|hp
  ·exact pok p hp
  ·rw[mem_singleton.1 hp];exact hcv
 all_goals exact⟨pok,fun p hp=>hp⟩
def DY(w:World)(x b q:Nat)(hv:Value)(Rs:List RefL)(Y:WS)(k m:Nat)(o:OpL)(n f:Int)(S':AS)(rb:Nat)(R':RefL)(P':dE):Prop :=
 (n=8\/n=f)/\S'.a=Y.S.a/\S'.X.d=Y.S.X.d/\S'.X.closed=false /\
 (
  (n=0/\nP o=true/\R'.blk=rb/\∃M',∀W' hv',lm hv' ((Rs++[R']).map (·.blk))->Turns [] (vt x b q hv' (Rs++[R']) { Y with S:=S',R:=R',P:=P',M:=M' }) w W'->Fil w W' x b q hv' (Rs++[R']) { Y with S:=S',R:=R',P:=P',M:=M' } (k+1) (m+o.d.length)) \/
  ((n=0->nP o=false)/\∃M',∀W',Turns [] (vt x b q hv Rs { Y with S:=S',P:=P',M:=M' }) w W'->Fil w W' x b q hv Rs { Y with S:=S',P:=P',M:=M' } (k+1) (m+o.d.length)))
theorem Fil.copy{w W:World}{x b q:Nat}{hv:Value}{Rs:List RefL}{Y:WS}{k m:Nat}(hF:Fil w W x b q hv Rs Y k m){R1:RefL}(e1:R1.vs=Y.R.vs)(e2:R1.ts=Y.R.ts)(e3:R1.quota=Y.R.quota)(e4:R1.closed=Y.R.closed):PB { Y with R:=R1 } k m 648/\LA { Y with R:=R1 }/\gY Y.P R1:=by
 obtain⟨l0,hl0⟩:=hF.last;have hmem:Y.R∈Rs:=by rw[hl0];simp
 obtain⟨r1,r2,r3,r4,r5,r6,r7⟩:=hF.refs _ hmem;have hlX:Link Y.S R1:=kA hF.la.link ⟨fun _=>rfl,rfl,rfl⟩ rfl e1 e2 (by rw[e3];exact hF.la.link.quota) (by rw[e4];exact hF.la.link.closed);have hp:=hF.pb;exact⟨⟨hp.b,by show R1.vs.length<=k;rw[e1];exact hp.vs,by show R1.ts.length<=k;rw[e2];exact hp.ts,hp.ml,by show ∀v∈R1.vs,v.num<=k;rw[e1];exact hp.nums,by show _+4*R1.vs.length<=_;rw[e1];exact hp.data,hp.n,hp.q,hp.ab,hp.told,hp.ep⟩,⟨hlX,hF.la.ar⟩,fun v hv=>by rw[e1]at hv;exact r2 v hv⟩
theorem Io{w W:World}{x b q:Nat}{hv:Value}{Rs:List RefL}{Y:WS}{k m:Nat}(hF:Fil w W x b q hv Rs Y k m){o:OpL}{R1:RefL}(e1:R1.vs=Y.R.vs)(e2:R1.ts=Y.R.ts)(e3:R1.quota=Y.R.quota)(e4:R1.closed=Y.R.closed)(ro:RefOk R1){n f:Int}{S':AS}{R':RefL}{P':dE}(ha:DoA Y.S (m+2*k) o n S')(ht:ThT R1 Y.P o f R' P')(hk:k+1<=400)(hm:m+o.d.length<=60000)(hgo:nP o=true\/o.kind=6\/o.kind=14)(hcl:Y.S.X.closed=false):DY w x b q hv Rs Y k m o n f S' R1.blk R' P':=by
 obtain⟨l0,hl0⟩:=hF.last;have hmem:Y.R∈Rs:=by rw[hl0];simp
 obtain⟨r1,r2,r3,r4,r5,r6,r7⟩:=hF.refs _ hmem;have hYq:Y.S.X.quota=q:=by rw[<- hF.la.link.quota];exact r4
 obtain⟨p1,p2⟩:=ht.pool hF.pok;have hlX:Link Y.S R1:=kA hF.la.link ⟨fun _=>rfl,rfl,rfl⟩ rfl e1 e2 (by rw[e3];exact hF.la.link.quota) (by rw[e4];exact hF.la.link.closed);have laX:LA { Y with R:=R1 }:=⟨hlX,hF.la.ar⟩;have hp:=hF.pb;have pbX:PB { Y with R:=R1 } k m 648:=⟨hp.b,by show R1.vs.length<=k;rw[e1];exact hp.vs,by show R1.ts.length<=k;rw[e2];exact hp.ts,hp.ml,by show ∀v∈R1.vs,v.num<=k;rw[e1];exact hp.nums,by show _+4*R1.vs.length<=_;rw[e1];exact hp.data,hp.n,hp.q,hp.ab,hp.told,hp.ep⟩;have inpX:gY Y.P R1:=fun v hv=>by rw[e1]at hv;exact r2 v hv
 obtain⟨rs,H,t,hfl⟩:=hF.told
 have hrefs:∀R∈Rs,RefOk R/\gY P' R/\R.closed=false/\R.quota=q/\R.vs.length<=k+1/\R.ts.length<=k+1/\∀v∈R.vs,v.path.length<=20/\v.cont.length<=4000:=fun R hR=>by
  obtain⟨a1,a2,a3,a4,a5,a6,a7⟩:=hF.refs R hR;exact⟨a1,fun v hv=>p2 _ (a2 v hv),a3,a4,by omega,by omega,a7⟩
 have hlen:=hF.len
 have still:∀{M':List SlB},PB { Y with S:=S',P:=P',M:=M' } (k+1) (m+o.d.length) 648->Link S' Y.R->ArOk S'->(∃rs H,Told S' rs H/\FlipIn S' rs Rs) ->
   ∃M',∀W',Turns [] (vt x b q hv Rs { Y with S:=S',P:=P',M:=M' }) w W'->Fil w W' x b q hv Rs { Y with S:=S',P:=P',M:=M' } (k+1) (m+o.d.length) :=
  fun {M'} h1 h2 h3 h4=>⟨M',fun W' hT=>⟨hT,hF.his,h1,⟨h2,h3⟩,p1,hrefs,⟨l0,hl0⟩,by omega,h4⟩⟩
 have nd:dc Y.S n f S'->DY w x b q hv Rs Y k m o n f S' R1.blk R' P':=by
  rintro⟨sp,hn,hao,rfl⟩;refine⟨by omega,rfl,rfl,hcl,.inr ⟨fun h=>by omega,still (M':=Y.M) ?_ (hF.la.link.spare sp) (hF.la.ar.spare hao) ⟨rs,H,t.spare sp,hfl.same rfl rfl rfl⟩⟩⟩;have h1:=(hp.mono (k':=k+1) (m':=m+o.d.length) (by omega) (by omega)).out sp .nilIface .nilIface [];exact⟨h1.b,h1.vs,h1.ts,h1.ml,h1.nums,h1.data,h1.n,h1.q,h1.ab,h1.told,h1.ep⟩
 rcases hgo with hg|hg|hg
 ·rcases FO pbX laX ro hF.pok inpX ha ht hk hm (Hz hg)with h|⟨rfl,rfl,hN⟩
  ·exact nd h
  ·obtain⟨M',hM⟩:=hN.pb;have hc':S'.X.closed=false:=hN.cl.trans hcl;have hq':S'.X.quota=q:=hN.quota.trans hYq;refine⟨.inr rfl,hN.a,hN.d,hc',.inl ⟨rfl,hg,hN.blk,M',fun W' hv' hh hT=>⟨hT,hh,hM,⟨hN.link,hN.ar⟩,p1,fun R hR=>?_,⟨Rs,rfl⟩,by rw[length_append,length_singleton];omega,hN.flip rs H Rs Y.R t hfl hmem e1.symm e2.symm⟩⟩⟩;rcases mem_append.1 hR with hR|hR
   ·exact hrefs R hR
   ·rw[mem_singleton.1 hR];exact⟨hN.ref,hN.inp,by rw[hN.link.closed];exact hc',by rw[hN.link.quota];exact hq',hM.vs,hM.ts,fun v hv=>⟨bP (hN.link.each v hv).2.1,(hN.link.each v hv).2.2⟩⟩
 ·have hcg:=sx (o:=o) (.inl hg);unfold DoA at ha;unfold ThT at ht;simp only[hg,Int.reduceEq,false_and,true_and,false_or,or_false,not_true,not_false_eq_true,and_false]at ha ht;obtain⟨rfl,L',hf,rfl⟩:=ha;obtain⟨rfl,-,rfl⟩:=ht;refine⟨.inr rfl,rfl,rfl,hcl,.inr ⟨fun _=>hcg,still (M':=Y.M) ?_ (kA hF.la.link ⟨fun _=>rfl,rfl,rfl⟩ rfl rfl rfl hF.la.link.quota hF.la.link.closed) (hF.la.ar.flush hf) ⟨rs,H,t.flush hf.2.2.1,hfl.same rfl hf.2.1 hf.2.2.1⟩⟩⟩;exact(hp.mono (k':=k+1) (m':=m+o.d.length) (by omega) (by omega)).flush hf
 ·have hcg:=sx (o:=o) (.inr hg);unfold DoA at ha;unfold ThT at ht;simp only[hg,Int.reduceEq,false_and,true_and,false_or,or_false,not_true,not_false_eq_true,and_false]at ha ht;obtain⟨rfl,hci⟩:=ha;obtain⟨rfl,-,rfl⟩:=ht;obtain⟨rs2,H2,t2⟩:=hci.told;have hL2:=hF.la.link.collect hci;obtain⟨M',hM⟩:∃M':List SlB,M'.map (·.bs)=jA Y.R.vs:=⟨(jA Y.R.vs).map (fun b=>⟨.nilIface,b⟩),by rw[map_map];exact map_id _⟩;have hc2:=(hp.Ql hF.la hci (v:=.nilIface) hM hk (by omega) ⟨hL2,hci.ok⟩).mono (Nat.le_refl _) (Nat.le_add_right m o.d.length)
  have hdl:S'.data.length<4294967296:=by
   have:=hc2.data;have h1:S'.data.length+4*Y.R.vs.length<=110*(k+1)+2*(m+o.d.length):=this;omega
  refine⟨.inr rfl,hci.a,hci.d,hci.closed.trans hcl,.inr ⟨fun _=>hcg,still (M':=M') ?_ hL2 hci.ok ⟨rs2,H2,t2,hfl.collect t hF.la.ar hF.la.link hmem rfl rfl hci t2 hdl⟩⟩⟩;exact⟨hc2.b,hc2.vs,hc2.ts,hc2.ml,hc2.nums,hc2.data,hc2.n,hc2.q,hc2.ab,hc2.told,hc2.ep⟩
def sS(x b:Nat)(v:Value)(d0 d n:Nat)(q:Nat)(R:RefL)(w0:World)(e:Ending)(w':World):Prop :=
 ∃S sp z,e=.returned (.int .i64 z)/\0<=z/\nm n q d S/\AreaOk { S.A with spare:=sp }/\Turns [] ((x,Is (aZ (aA d0) (aA S.a) q b))::(fh b v [R.blk] 0++(aN R++arF (bK S sp)))) w0 w'
theorem ym(x b:Nat)(v:Value)(d0 d:Nat)(av:Value)(q r:Nat)(L:DevL)(w0 w:World)(h:Turns [] ((x,Is (aZ (aA d0) av q b))::(fh b v [r] 0++(aN (iA r q)++az d L))) w0 w)(hok:lm v [r])(hq:q<1000000)(hL:DevOk L)(hn:16<=L.n)(hn2:L.n<=1073741824)(hch:L.chs.length<=137438953472)(hz:∀k,k<2->aC L.now k=ak 128)(hE:cG w0):
  Calls Tryz.prog 34 #[.pointer (some ⟨x,0,none⟩),.pointer (some ⟨d,0,none⟩)] w (sS x b v d0 d L.n q (iA r q) w0):=by
 have hx:=h.sat.Q5;have c2:w.cell? ⟨x,2,none⟩=some (.int .i64 q):=aa hx 2 rfl;have hxl:=ac hx;have HO:=qqH (sR d L q w (h.sat.tail.right.right) hL hn hn2 hch hz (by omega));have HH:=Hq4 h hok hq hE;clear h hok hL hn hn2 hch hz hE hx;go_enter Tryz.func34,Tryz.ntmps34;go_wp2_with fail;refine HO.out.mono ?_;rintro e w1 ⟨S,rfl,hst,hT⟩;have hT1:=HH.a.step (F:=az d L) (R:=(x,Is (aZ (aA d0) av q b))::(fh b v [r] 0++aN (iA r q))) ae hT;have HTe:=qqH (bQ .nilIface 0 w1 (HH.x.keep hT1.mods (fun h=>by simp at h)) (.inl ⟨rfl,rfl⟩));have H1:=Hq2 hT1 hst;clear hT hT1 hst;go_wp2_with fail;refine HTe.out.mono ?_;rintro e w2 ⟨rfl,hs2⟩;have hT2:=(H1.a.Q9 hs2).to (H:=(x,Is (.cells #[aA d0,av,.int .i64 q,aA b] 35 (0,0)))::(fh b v [r] 0++(aN (iA r q)++arF S))) (by unfold aZ;exact ae);have hxl2:=ac hT2.sat.Q5;have H2:=qqH hT2;clear hT2 hs2;go_upto_region 5 with(first|(refine ai rfl (bu 32 (.tmp 26) (.tmp 24) rfl x 1 #[aA d0,av,.int .i64 q,aA b] 35 (aA S.a) H2.out rfl rfl (by simp) (by kernel_rfl) rfl rfl ?_);intro w3 hT3;have H3:=qqH hT3;clear hT3;simp only[Act.put])|fail);obtain⟨I,hI⟩:∃I:World->Prop,I=fun W=>∃sp,AreaOk { S.A with spare:=sp }/\Turns [] ((x,Is (aZ (aA d0) (aA S.a) q b))::(fh b v [r] 0++(aN (iA r q)++arF (bK S sp)))) w0 W:=⟨_,rfl⟩
 have hI0:∀W,Turns [] ((x,Is (aZ (aA d0) (aA S.a) q b))::(fh b v [r] 0++(aN (iA r q)++arF S))) w0 W->I W:=fun W hW=>by rw[hI];exact⟨S.A.spare,H1.b.area,hW⟩
 have hL1:Link S (iA r q):=oY H1.z rfl rfl (by show(q:Int)=c9 q;unfold c9;split<;>omega) rfl
 have HP:∀W,I W->Calls Tryz.prog 45 #[.pointer (some ⟨b,0,none⟩),.pointer (some ⟨S.a,0,none⟩),.int .i64 (0:Nat),.bool false] W (fun e w'=>∃r',e=.returned (.int .i64 r')/\sv (fun _=>True) 0 [r].length r'/\I w'):=fun W hW=>by
  refine qc b v [r] 0 (.pointer (some ⟨S.a,0,none⟩)) 0 false I (fun _=>True) (fun W hW=>by rw[hI]at hW;obtain⟨sp,-,hT⟩:=hW;exact hT.sat.tail.left) HH.b (fun W n p hW hp=>?_) W hW (by simp) (by omega)
  have hp:n=0/\p=r:=by
   cases n with
   | zero=>simp at hp;exact⟨rfl,hp.symm⟩
   | succ n=>simp at hp
  obtain⟨rfl,rfl⟩:=hp;rw[hI]at hW;obtain⟨sp,hsp,hT⟩:=hW
  have hl:=uf (bK S sp) (iA p q) [] 0 ((x,Is (aZ (aA d0) (aA S.a) q b))::(fh b v [p] 0++aN (iA p q))) false w0 W (hT.to ae) (H1.b.spare hsp) (H1.c.spare sp) (by omega) H1.d rfl (by simp[iA])
   (fun W hW=>⟨hW.tail.right,⟨⟨rfl,fun _=>⟨rfl,rfl⟩⟩,⟨rfl,fun _=>⟨rfl,rfl⟩⟩⟩,Sat.nil W,(fun p hp=>by cases hp),(fun v hv=>by cases hv),by simp[iA],(fun v hv=>by cases hv)⟩) HH.x (fun v hv=>by cases hv)
  refine hl.mono ?_;rintro e w' ⟨z,sp2,rfl,h1,h2,h3⟩;refine⟨z,rfl,fun _=>h1 (hL1.spare sp),?_⟩;rw[hI];exact⟨sp2,h2,h3.to (by show Perm (arF (bK S sp2)++_) _;exact ae)⟩
 have HP:=Hq3 HP hI0 hI;clear hI0 hL1 hI;refine cL [([0,1,2,3,4,5,6,7,8,9,10,11],12,[])] [13] HM.out (by kernel_rfl) fun W tW=>?_
 simp only[Mix,map_cons,map_nil,nth,QG,QF];have k0:=tW H3.out;clear tW;have g3:W.cell? ⟨x,3,none⟩=some (.pointer (some ⟨b,0,none⟩)):=aa k0.sat.Q5 3 rfl;have g1:W.cell? ⟨b,1,none⟩=some (.int .i64 0):=aa (k0.sat.tail.left (G:=aN (iA r q)++arF S)).Q5 1 rfl;repeat still_step
 refine wpStill_nil (bw (by kernel_rfl) (HP.a W (HP.b W k0)) ?_);rintro e w4 ⟨r',rfl,hpre,hI4⟩
 have hz0:0<=r':=by
  rcases Int.lt_or_le r' 0 with h|h
  ·have:=hpre.2.2 (by have:=hpre.1;omega) 0 (Nat.le_refl _) (by simp);exact absurd trivial this
  ·exact h
 have HF:sS x b v d0 d L.n q (iA r q) w0 (.returned (.int .i64 r')) w4:=by
  rw[HP.y]at hI4;obtain⟨sp,h1,h2⟩:=hI4;exact⟨S,sp,r',rfl,hz0,H1.z,h1,h2⟩
 have hcs:w4.cell? ⟨x,3,none⟩=some (.pointer (some ⟨b,0,none⟩))/\w4.cell? ⟨b,1,none⟩=some (.int .i64 0):=by
  rw[HP.y]at hI4;obtain⟨sp,-,h2⟩:=hI4;exact⟨aa h2.sat.Q5 3 rfl,aa (h2.sat.tail.left (G:=aN (iA r q)++arF (bK S sp))).Q5 1 rfl⟩
 obtain⟨g3',g1'⟩:=hcs;have HEnd:=qqH HF;clear HF hI4 hpre k0 g3 g1;refine⟨_,rfl,by((repeat still_step);exact rfl),?_⟩;simp only[Act.put,QA,QB,QC];clear g3' g1';repeat still_step
 refine wpStill_nil ?_;go_wp2_with fail;go_ret;exact HEnd.out
def KX(w:World)(l:List OpL)(x b q:Nat)(v:Value)(W:World):Prop :=
 ∃(k:Nat) (hv:Value) (Rs:List RefL) (Y:WS),k<=l.length/\v=.int .i64 k/\Fil w W x b q hv Rs Y k (dy (l.take k))/\Y.S.X.closed=false
def BR(w:World)(e:Ending)(w':World):Prop :=
 ∃(x b q:Nat) (hv:Value) (Rs:List RefL) (Y:WS) (k m:Nat),e=.returned (.tuple #[aA x,.bool true])/\Turns [] (vt x b q hv Rs { Y with S:=Ib Y.S }) w w'/\q<1000000/\(Rs.length<=401/\k<=400/\m<=60000)/\lm hv (Rs.map (·.blk))/\PB Y k m 648/\ArOk Y.S/\gO Y.P /\
  (∀R∈Rs,RefOk R/\gY Y.P R/\R.closed=false/\R.quota=q/\R.vs.length<=k/\R.ts.length<=k/\∀v∈R.vs,v.path.length<=20/\v.cont.length<=4000)/\(∃rs H,Told Y.S rs H/\FlipIn Y.S rs Rs)/\Y.S.L.safe=Y.S.L.now/\Y.S.L.chs=[]
theorem xV(l:List OpL)(sl:Option Addr)(cap:Nat)(Q:Int)(w:World)(h:al w sl (uo l))(hok:∀o∈l,OpOk w o)(hlen:l.length<=400/\dy l<=60000)(hE:cG w):
  Calls Tryz.prog 14 #[.slice sl l.length cap,.int .i64 Q] w (BR w):=by
 have HSi:=qqH (DG 648 Q (by omega) w);have HH:=Hq4 h hok hE hlen;clear h hok hE;have hl4:l.length<=400:=hlen.1;clear hlen;go_enter Tryz.func14,Tryz.ntmps14;go_wp2_with fail;refine HSi.out.mono ?_;rintro e w1 ⟨x,b,hv,r,d,L,he,hho,hL,hn,hnow,hch,hT⟩;have he:e=.returned (.pointer (some ⟨x,0,none⟩)):=he;subst he;obtain⟨q,hq⟩:∃q,q=qd Q:=⟨_,rfl⟩;have hq6:q<1000000:=by rw[hq];unfold qd;exact Nat.mod_lt _ (by omega)
 rw[<- hq]at hT;have x0:w1.cell? ⟨x,0,none⟩=some (.pointer (some ⟨d,0,none⟩)):=aa hT.sat.Q5 0 rfl;have xl:=ac hT.sat.Q5;have HO:=qqH (ym x b hv d d (.pointer none) q r L w w1 hT hho hq6 hL (by omega) (by omega) (by rw[hch];simp) (fun k hk=>by rw[hnow];simp only[aC,ak,drop_replicate,take_replicate];congr 1;omega) HH.c);have H1:=Hq3 hho hq6 hn;clear hT hho hL hn hnow hch hq hq6;go_wp2_with fail;refine HO.out.mono ?_;rintro e w2 ⟨S,sp,z,rfl,hz,hst,hao,hT⟩;rw[H1.y]at hst;have hz2:¬z<0:=by omega
 obtain⟨Y,hY⟩:∃Y:WS,Y=⟨⟨0,0,none,0,.nilIface,.nilIface,.nilIface⟩,bK S sp,iA r q,[],[],[],[]⟩:=⟨_,rfl⟩;have hL0:Link S (iA r q):=oY hst rfl rfl (by show(q:Int)=c9 q;unfold c9;split<;>omega) rfl
 have hF:Fil w w2 x b q hv [iA r q] Y 0 0:=by
  have hst':=hst;obtain⟨s1,s2,s3,s4,s5,s6,s7,s8,s9,s10,s11,s12,s13,s14,-⟩:=hst';have hcl:c9 (q:Int)=q:=by unfold c9;split<;>omega
  have hf:=CQ hst hL0;rw[hY];refine⟨?_,H1.a,⟨s2.spare sp,by simp[iA],by simp[iA],by simp,(by intro v hv;cases hv),by show S.data.length+_<=_;rw[s11];simp[iA],s12,?_,(AB.start hst).of rfl rfl rfl (fun l V hV=>⟨V,hV,rfl⟩),⟨[],[],(mf hst).spare sp⟩,by show S.X.ep<=_;rw[s14];omega⟩,⟨hL0.spare sp,s1.spare hao⟩,(fun p hp=>by cases hp),(fun R hR=>?_),⟨[],rfl⟩,by simp,⟨[],[],(mf hst).spare sp,hf.same rfl rfl rfl⟩⟩
  ·unfold vt;have e1:[iA r q].flatMap aN=aN (iA r q):=by simp
   show Turns [] ((x,Is (aZ (aA S.X.d) (aA S.a) q b))::(fh b hv [(iA r q).blk] 0++([iA r q].flatMap aN++([]++arF (bK S sp))))) w w2;rw[s13,e1];exact hT.to ae
  ·show 0<=S.X.quota/\S.X.quota<=_;have:=H1.b;rw[s4,hcl];omega
  ·rw[mem_singleton.1 hR];exact⟨⟨⟨rfl,fun _=>⟨rfl,rfl⟩⟩,⟨rfl,fun _=>⟨rfl,rfl⟩⟩⟩,(fun v hv=>by cases hv),rfl,rfl,by simp[iA],by simp[iA],(fun v hv=>by cases hv)⟩
 have hYc:Y.S.X.closed=false:=by rw[hY];exact hst.2.2.1
 have H2:=Hq2 hF hYc;clear hT hst hao hY hL0 hF hYc hz x0 xl;go_wp2_with fail;go_loopw [8] (fun v wr=>KX w l x b q v wr) (fun v _=>l.length-(intOf v).toNat)
 case atStart=>exact⟨0,hv,_,Y,Nat.zero_le _,rfl,by simpa[dy]using H2.a,H2.z⟩
 case round =>
  clear HO;obtain⟨k,hv2,Rs,Z,hk,rfl,hZ,hZc⟩:=hrel;by_cases hlt:k<l.length
  ·obtain⟨g,off,hg,c0,c1,c2,c3,c4,c5,c6⟩:=KM (HH.a.keep hZ.turns.news (fun _ _ _=>id)) hlt;have hoo:=HH.b l[k] (getElem_mem hlt);obtain⟨dsl,dcap,hdv,-,-,-⟩:=hoo.dv;have hnx:=rR hlt;have hle:=qQ l (k+1);subst hg;obtain⟨o,hod⟩:∃o,o=l[k]:=⟨_,rfl⟩;rw[<- hod]at c0 c1 c2 c3 c4 c5 c6 hoo hdv hnx;obtain⟨ok,oa,ob_,oc,os,ot,odv,od⟩:=o;simp only at c0 c1 c2 c3 c4 c5 c6 hdv;subst hdv;have hgl:=World.block_lt_of_cell? wr _ c0;have HZ:=Hq5 hZ hZc hoo hnx hle;clear hZ hZc hoo hnx hle hod;go_upto_region 9 with(fail);obtain⟨ob,hob⟩:∃ob,ob=wr.heap.size:=⟨_,rfl⟩
   have hT1:Turns [] ((ob,Is (oO ⟨ok,oa,ob_,oc,os,ot,.slice dsl od.length dcap,od⟩))::vt x b q hv2 Rs Z) w (wr.alloc (.cells #[.int .i64 ok,.int .i64 oa,.int .i64 ob_,.int .i64 oc,.string ⟨os.toArray⟩,.string ⟨ot.toArray⟩,.slice dsl od.length dcap] 65)):=by
    rw[hob];exact HZ.a.turns.Q8 (oO ⟨ok,oa,ob_,oc,os,ot,.slice dsl od.length dcap,od⟩)
   rw[<- hob];generalize wr.alloc (.cells #[.int .i64 ok,.int .i64 oa,.int .i64 ob_,.int .i64 oc,.string ⟨os.toArray⟩,.string ⟨ot.toArray⟩,.slice dsl od.length dcap] 65)=W1 at hT1 ⊢
   have okey:∀W:World,W.heap[ob]?=some (oO ⟨ok,oa,ob_,oc,os,ot,.slice dsl od.length dcap,od⟩)->W.cell? ⟨ob,0,none⟩=some (.int .i64 ok)/\W.cell? ⟨ob,1,none⟩=some (.int .i64 oa)/\W.cell? ⟨ob,2,none⟩=some (.int .i64 ob_)/\W.cell? ⟨ob,3,none⟩=some (.int .i64 oc)/\W.cell? ⟨ob,4,none⟩=some (str os)/\W.cell? ⟨ob,5,none⟩=some (str ot)/\W.cell? ⟨ob,6,none⟩=some (.slice dsl od.length dcap)/\ob<W.heap.size:=fun W ho =>
    ⟨aa ho 0 rfl,aa ho 1 rfl,aa ho 2 rfl,aa ho 3 rfl,aa ho 4 rfl,aa ho 5 rfl,aa ho 6 rfl,ac ho⟩
   have xkey:∀(W:World),W.heap[x]?=some (aZ (aA Z.S.X.d) (aA Z.S.a) q b)->W.cell? ⟨x,1,none⟩=some (.pointer (some ⟨Z.S.a,0,none⟩))/\W.cell? ⟨x,2,none⟩=some (.int .i64 q)/\W.cell? ⟨x,3,none⟩=some (.pointer (some ⟨b,0,none⟩))/\x<W.heap.size:=fun W ho =>
    ⟨aa ho 1 rfl,aa ho 2 rfl,aa ho 3 rfl,ac ho⟩
   obtain⟨o0,o1,o2,o3,o4,o5,o6,ol⟩:=okey W1 hT1.sat.Q5;have HK:=Hq2 okey xkey;have HC:Hid (Calls Tryz.prog 35 #[.agg #[.int .i64 ok,.int .i64 oa,.int .i64 ob_,.int .i64 oc,str os,str ot,.slice dsl od.length dcap]] W1 (fun e w'=>e=.returned (.bool (nP ⟨ok,oa,ob_,oc,os,ot,.slice dsl od.length dcap,od⟩))/\aX W1 w')):=qqH (vl ⟨ok,oa,ob_,oc,os,ot,.slice dsl od.length dcap,od⟩ rfl W1);have HT1:=qqH hT1;clear hT1 hob okey xkey c0 c1 c2 c3 c4 c5 c6;go_wp2_with fail;refine HC.out.mono ?_;rintro e W2 ⟨rfl,hs2⟩;have hT2:=HT1.out.Q9 hs2;clear o0 o1 o2 o3 o4 o5 o6 ol;obtain⟨o0,o1,o2,o3,o4,o5,o6,ol⟩:=HK.a W2 hT2.sat.Q5;have HT2:=qqH hT2;clear hT2 hs2;by_cases hgo:nP ⟨ok,oa,ob_,oc,os,ot,.slice dsl od.length dcap,od⟩=true\/ok=6\/ok=14
   ·obtain⟨l0,hl0⟩:=HZ.a.last;have hmem:Z.R∈Rs:=by rw[hl0];simp
    have hmp:Rs.map (·.blk)=l0.map (·.blk)++[Z.R.blk]:=by rw[hl0,map_append];rfl
    have hfm:Rs.flatMap aN=l0.flatMap aN++aN Z.R:=by rw[hl0,flatMap_append];simp
    obtain⟨r1,r2,r3,r4,r5,r6,r7⟩:=HZ.a.refs _ hmem
    have hT3:Turns [] (fh b hv2 (l0.map (·.blk)++[Z.R.blk]) 0++((ob,Is (oO ⟨ok,oa,ob_,oc,os,ot,.slice dsl od.length dcap,od⟩))::(x,Is (aZ (aA Z.S.X.d) (aA Z.S.a) q b))::(l0.flatMap aN++(aN Z.R++(bh Z.P++arF Z.S))))) w W2:=by
     have:=HT2.out;unfold vt at this;rw[hmp,hfm]at this;exact this.to ae
    have HN:=qqH (yd b hv2 (l0.map (·.blk)) 0 Z.R.blk W2 hT3.sat.left (by rw[<- hmp];exact HZ.a.his));have HR0:=qqH (And.intro hl0 (And.intro hmem (And.intro hmp (And.intro hfm (And.intro r1 (And.intro r2 (And.intro r3 (And.intro r4 (And.intro r5 (And.intro r6 hgo))))))))));have HT3:=qqH hT3;obtain⟨x1,x2,x3,xl⟩:=HK.z W2 (HT2.out.sat.tail.Q5);obtain⟨cg,hcg⟩:∃cg,cg=nP ⟨ok,oa,ob_,oc,os,ot,.slice dsl od.length dcap,od⟩:=⟨_,rfl⟩;have HCG:=qqH hcg
    have hcase:cg=true\/(cg=false/\(ok != 6)=false)\/(cg=false/\(ok != 6)=true/\(ok != 14)=false):=by
     rw[hcg];rcases hgo with h|h|h
     ·exact .inl h
     ·exact .inr (.inl ⟨sx (.inl h),by simp[h]⟩)
     ·exact .inr (.inr ⟨sx (.inr h),by simp[h],by simp[h]⟩)
    rw[<- hcg];clear hl0 hmem hmp hfm r1 r2 r3 r4 r5 r6 r7 hT3 hgo hcg;rcases hcase with rfl|⟨rfl,n6⟩|⟨rfl,n6,n14⟩
    all_goals
     go_wp2_with fail;refine HN.out.mono ?_;rintro e W3 ⟨rfl,hs3⟩
     have hT4:Turns [] (aN Z.R++((ob,Is (oO ⟨ok,oa,ob_,oc,os,ot,.slice dsl od.length dcap,od⟩))::(x,Is (aZ (aA Z.S.X.d) (aA Z.S.a) q b))::(l0.flatMap aN++(fh b hv2 (Rs.map (·.blk)) 0++(bh Z.P++arF Z.S))))) w W3:=by
      have:=HT3.out.Q9 hs3;rw[<- HR0.c]at this;exact this.to ae
     have hra:RefAt Z.R Z.P W3:=⟨hT4.sat.left,HR0.e,(hT4.sat.right.tail.tail.right.right.left),HZ.a.pok,HR0.f,by have:=HR0.out.2.2.2.2.2.2.2.2.1;omega,fun v hv=>by have:=(HZ.a.la.link.each v hv).2.2;omega⟩;have HCp:=qqH (vj Z.R W3 hT4.sat.left HR0.e hra.one ⟨by have:=HR0.out.2.2.2.2.2.2.2.2.1;omega,by have:=HR0.out.2.2.2.2.2.2.2.2.2.1;omega⟩);have HT4:=qqH hT4;clear hs3 hra hT4 x1 x2 x3 xl o0 o1 o2 o3 o4 o5 o6 ol;go_wp2_with fail;refine HCp.out.mono ?_;rintro e W4 ⟨b2,vv2,tv2,rfl,hro,hT⟩;have hT5:Turns [] ((b2,Is (.cells #[vv2,tv2,.int .i64 Z.R.quota,.bool false] 60 (0,0)))::(eu vv2 Z.R.vs++fc tv2 Z.R.ts++(aN Z.R++((ob,Is (oO ⟨ok,oa,ob_,oc,os,ot,.slice dsl od.length dcap,od⟩))::(x,Is (aZ (aA Z.S.X.d) (aA Z.S.a) q b))::(l0.flatMap aN++(fh b hv2 (Rs.map (·.blk)) 0++(bh Z.P++arF Z.S))))))) w W4:=(HT4.out.step (Perm.refl _) hT).to (Perm.of_eq (by simp[aN,jH,dk,append_assoc]));obtain⟨x1,x2,x3,xl⟩:=HK.z W4 (hT5.sat.Q7 (by simp));have b2l:=ac hT5.sat.Q5;have H5:=Hq2 hT5 hro;clear hT hT5 hro;go_upto_region 13 with(first|(refine ai rfl (bu 3 (.tmp 62) (.tmp 60) rfl b2 2 #[vv2,tv2,.int .i64 Z.R.quota,.bool false] 60 (.int .i64 q) H5.a rfl rfl (by simp) (by kernel_rfl) rfl rfl ?_);intro W5 hT6;have H6:=qqH hT6;clear hT6;simp only[Act.put])|fail);obtain⟨R2,hR2⟩:∃R2:RefL,R2={ Z.R with blk:=b2,vv:=vv2,tv:=tv2,quota:=(q:Int),closed:=false }:=⟨_,rfl⟩
     have hR2f:R2.vs=Z.R.vs/\R2.ts=Z.R.ts/\R2.quota=Z.R.quota/\R2.closed=Z.R.closed/\R2.blk=b2/\RefOk R2:=by
      rw[hR2];exact⟨rfl,rfl,HR0.h.symm,HR0.g.symm,rfl,⟨H5.z.vs,H5.z.ts⟩⟩
     have hT7:Turns [] ((aN R2++bh Z.P)++((ob,Is (oO ⟨ok,oa,ob_,oc,os,ot,.slice dsl od.length dcap,od⟩))::(x,Is (aZ (aA Z.S.X.d) (aA Z.S.a) q b))::(l0.flatMap aN++(aN Z.R++(fh b hv2 (Rs.map (·.blk)) 0++arF Z.S))))) w W5:=by
      have h1:Turns [] (aN R2++(aN Z.R++((ob,Is (oO ⟨ok,oa,ob_,oc,os,ot,.slice dsl od.length dcap,od⟩))::(x,Is (aZ (aA Z.S.X.d) (aA Z.S.a) q b))::(l0.flatMap aN++(fh b hv2 (Rs.map (·.blk)) 0++(bh Z.P++arF Z.S)))))) w W5:=by
       have:=H6.out;rw[hR2];exact this.to (Perm.of_eq (by simp[aN,jH,dk,append_assoc]))
      exact h1.to ae
     obtain⟨o0,o1,o2,o3,o4,o5,o6,ol⟩:=HK.a W5 (hT7.sat.right.Q5);obtain⟨f1,f2,f3⟩:=HZ.a.copy hR2f.1 hR2f.2.1 hR2f.2.2.1 hR2f.2.2.2.1
     have hmm:dy (l.take k)+od.length<=60000/\k+1<=400:=by
      have h1:=HZ.d;have h2:=HZ.w;have h3:=HH.w;unfold rP at h1;simp only at h1;omega
     have HTh:Hid (Calls Tryz.prog 38 #[.pointer (some ⟨b2,0,none⟩),.agg #[.int .i64 ok,.int .i64 oa,.int .i64 ob_,.int .i64 oc,str os,str ot,.slice dsl od.length dcap]] W5 (fun e w'=>∃n R' P',e=.returned (.int .i64 n)/\ThT R2 Z.P ⟨ok,oa,ob_,oc,os,ot,.slice dsl od.length dcap,od⟩ n R' P'/\Turns [] ((aN R'++bh P')++((ob,Is (oO ⟨ok,oa,ob_,oc,os,ot,.slice dsl od.length dcap,od⟩))::(x,Is (aZ (aA Z.S.X.d) (aA Z.S.a) q b))::(l0.flatMap aN++(aN Z.R++(fh b hv2 (Rs.map (·.blk)) 0++arF Z.S))))) w w')):=by
      rw[<- hR2f.2.2.2.2.1];exact qqH (Gy f1 f2 hR2f.2.2.2.2.2 HZ.a.pok f3 hT7 HZ.c (by omega) hmm.1)
     have H7:=Hq3 hT7 hR2f hmm;clear hR2 hR2f hT7 f1 f2 f3 hmm x1 x2 x3 xl b2l;go_wp2_with fail;refine HTh.out.mono ?_;rintro e W6 ⟨f,R',P',rfl,hth,hT⟩;have hT8:=hT.to (H:=arF Z.S++((x,Is (aZ (aA Z.S.X.d) (aA Z.S.a) q b))::((aN R'++bh P')++((ob,Is (oO ⟨ok,oa,ob_,oc,os,ot,.slice dsl od.length dcap,od⟩))::(l0.flatMap aN++(aN Z.R++fh b hv2 (Rs.map (·.blk)) 0)))))) ae;clear o0 o1 o2 o3 o4 o5 o6 ol;obtain⟨o0,o1,o2,o3,o4,o5,o6,ol⟩:=HK.a W6 (hT8.sat.Q7 (by simp))
     have HDo:Hid (Calls Tryz.prog 39 #[.pointer (some ⟨x,0,none⟩),.agg #[.int .i64 ok,.int .i64 oa,.int .i64 ob_,.int .i64 oc,str os,str ot,.slice dsl od.length dcap]] W6 (kH w (DoA Z.S (dy (l.take k)+2*k) ⟨ok,oa,ob_,oc,os,ot,.slice dsl od.length dcap,od⟩) x (aZ (aA Z.S.X.d) (aA Z.S.a) q b) ((aN R'++bh P')++((ob,Is (oO ⟨ok,oa,ob_,oc,os,ot,.slice dsl od.length dcap,od⟩))::(l0.flatMap aN++(aN Z.R++fh b hv2 (Rs.map (·.blk)) 0)))))) :=
      qqH (LP HZ.a.pb HZ.a.la HZ.b hT8 HH.c HZ.c (by have:=H7.x;omega) H7.c)
     have H8:=qqH hth;clear hT hT8 hth;go_wp2_with fail;refine HDo.out.mono ?_;rintro e W7 ⟨n,S',rfl,hda,hT⟩;have hst:=Io HZ.a H7.b.1 H7.b.2.1 H7.b.2.2.1 H7.b.2.2.2.1 H7.b.2.2.2.2.2 hda H8.out H7.x H7.c HR0.out.2.2.2.2.2.2.2.2.2.2 HZ.b;obtain⟨s1,s2,s3,s4,s5⟩:=hst;rw[H7.b.2.2.2.2.1]at s5;have H9:=Hq5 hT s2 s3 s4 s5;clear hT s2 s3 s4 s5 hda o0 o1 o2 o3 o4 o5 o6 ol
     have hol:dy (l.take k)+od.length<=dy (l.take (k+1)):=by
      have h1:=HZ.d;unfold rP at h1;simp only at h1;omega
     have hsi:aZ (aA S'.X.d) (aA S'.a) q b=aZ (aA Z.S.X.d) (aA Z.S.a) q b:=by rw[H9.b,H9.c]
     have hstay:(n=0->nP ⟨ok,oa,ob_,oc,os,ot,.slice dsl od.length dcap,od⟩=false)->∃Y':WS,Fil w W7 x b q hv2 Rs Y' (k+1) (dy (l.take (k+1)))/\Y'.S.X.closed=false:=fun hno=>by
      rcases H9.w with⟨a,c,-⟩|⟨-,M',hfil⟩
      ·rw[hno a]at c;cases c
      ·refine⟨_,(hfil W7 ?_).mono (Nat.le_refl _) hol,H9.d⟩;show Turns [] ((x,Is (aZ (aA S'.X.d) (aA S'.a) q b))::(fh b hv2 (Rs.map (·.blk)) 0++(Rs.flatMap aN++(bh P'++arF S')))) w W7;rw[hsi,HR0.d];exact H9.a.drop (fun y=>by simp only[ah,ao];omega)
     have HS:=Hq3 hol hsi hstay;clear hol hsi hstay;by_cases n8:n=8
     ·subst n8;obtain⟨Y',y1,y2⟩:=HS.y (fun h=>by omega);have HY:=Hq2 y1 y2;clear y1 y2 s1;go_wp2_with fail;go_roundw
      case rel=>exact⟨k+1,hv2,Rs,Y',by omega,by go_num,HY.a,HY.z⟩
      case measure=>simp[intOf];omega
     ·have nf:f=n:=by omega
      subst nf;have n8b:(f != 8)=true:=by simpa using n8
      clear s1;by_cases n0:f=0
      ·subst n0
       first
        | (
         have hcg:nP ⟨ok,oa,ob_,oc,os,ot,.slice dsl od.length dcap,od⟩=false:=HCG.out.symm;obtain⟨Y',y1,y2⟩:=HS.y (fun _=>hcg);have HY:=Hq2 y1 y2;clear y1 y2 hcg;go_wp2_with (go_at_call 41;refine(qM _ _).mono ?_;rintro e w' ⟨rfl,rfl⟩);go_roundw
         case rel=>exact⟨k+1,hv2,Rs,Y',by omega,by go_num,HY.a,HY.z⟩
         case measure=>simp[intOf];omega)
        | (
         skip;rcases H9.w with⟨-,-,hb,M',hfil⟩|⟨hno,-⟩
         ·have e2:(Rs++[R']).map (·.blk)=Rs.map (·.blk)++[b2]:=by rw[map_append];simp[hb]
          have e3:(Rs++[R']).flatMap aN=l0.flatMap aN++(aN Z.R++aN R'):=by rw[flatMap_append,HR0.d];simp[append_assoc]
          have hTh:=H9.a.to (H:=fh b hv2 (Rs.map (·.blk)) 0++(arF S'++((x,Is (aZ (aA Z.S.X.d) (aA Z.S.a) q b))::((aN R'++bh P')++((ob,Is (oO ⟨ok,oa,ob_,oc,os,ot,.slice dsl od.length dcap,od⟩))::(l0.flatMap aN++aN Z.R)))))) ae;have HA:=qqH (p9 b hv2 (Rs.map (·.blk)) 0 b2 W7 hTh.sat.left HZ.a.his (by rw[length_map];have:=HZ.a.len;omega));obtain⟨x1,x2,x3,xl⟩:=HK.z W7 (hTh.sat.Q7 (by simp));have HT:=Hq4 hTh e2 e3 hfil;clear hTh e2 e3 hfil hb;go_wp2_with (go_at_call 41;refine(qM _ _).mono ?_;rintro e w' ⟨rfl,rfl⟩);refine HA.out.mono ?_;rintro e W8 ⟨rfl,v',hv',hT⟩
          have hF8:=HT.x W8 v' (by rw[HT.b];exact hv') (by
           show Turns [] ((x,Is (aZ (aA S'.X.d) (aA S'.a) q b))::(fh b v' ((Rs++[R']).map (·.blk)) 0++((Rs++[R']).flatMap aN++(bh P'++arF S')))) w W8;rw[HS.b,HT.b,HT.c];exact(HT.a.step (Perm.refl _) hT).drop (fun y=>by simp only[ah,ao];omega))
          have HF8:=qqH hF8;clear hF8 hT hv' x1 x2 x3 xl;go_wp2_with fail;go_roundw
          case rel=>exact⟨k+1,v',Rs++[R'],_,by omega,by go_num,HF8.out.mono (Nat.le_refl _) HS.a,H9.d⟩
          case measure=>simp[intOf];omega
         ·have:=HCG.out;rw[hno rfl]at this;cases this)
      ·obtain⟨Y',y1,y2⟩:=HS.y (fun h=>absurd h n0);have HY:=Hq2 y1 y2;have n0b:(f==0)=false:=by simpa using n0
       clear y1 y2;go_wp2_with (go_at_call 41;refine(qM _ _).mono ?_;rintro e w' ⟨rfl,rfl⟩);go_roundw
       case rel=>exact⟨k+1,hv2,Rs,Y',by omega,by go_num,HY.a,HY.z⟩
       case measure=>simp[intOf];omega
   ·have hgc:nP ⟨ok,oa,ob_,oc,os,ot,.slice dsl od.length dcap,od⟩=false:=by
     cases hc:nP ⟨ok,oa,ob_,oc,os,ot,.slice dsl od.length dcap,od⟩with
     | false=>rfl
     | true=>exact absurd (.inl hc) hgo
    have q6:¬ok=6:=fun e=>hgo (.inr (.inl e))
    have q14:¬ok=14:=fun e=>hgo (.inr (.inr e))
    rw[hgc];have hF2:Fil w W2 x b q hv2 Rs Z (k+1) (dy (l.take (k+1))):=(HZ.a.back (HT2.out.drop (fun y=>by simp only[ao];omega))).mono (by omega) (by rw[HZ.d];omega);have HF2:=qqH hF2;clear hF2;have n6:(ok != 6)=true:=by simpa using q6
    have n14:(ok != 14)=true:=by simpa using q14
    go_wp2_with fail;go_roundw
    case rel=>exact⟨k+1,hv2,Rs,Z,by omega,by go_num,HF2.out,HZ.b⟩
    case measure=>simp[intOf];omega
  ·obtain rfl:k=l.length:=by omega
   have hx:wr.heap[x]?=some (aZ (aA Z.S.X.d) (aA Z.S.a) q b):=hZ.turns.sat.Q5;have x1:wr.cell? ⟨x,1,none⟩=some (.pointer (some ⟨Z.S.a,0,none⟩)):=aa hx 1 rfl;have xl:=ac hx
   have hTc:Turns [] (arF Z.S++((x,Is (aZ (aA Z.S.X.d) (aA Z.S.a) q b))::(fh b hv2 (Rs.map (·.blk)) 0++(Rs.flatMap aN++bh Z.P)))) w wr:=by
    have:=hZ.turns;unfold vt at this;exact this.to ae
   have hom:dy (l.take l.length)<=60000:=Nat.le_trans (qQ l l.length) HH.w;have HCl:=qqH (yR Z.S (dy (l.take l.length)+2*l.length) wr hTc.sat.left hZ.la.ar hZ.pb.b (by omega));have HZ:=Hq4 hZ hZc hTc hom;clear hZ hZc hTc hx hom hk hlt;go_wp2_with fail;refine HCl.out.mono ?_;rintro e w3 (⟨hc,-⟩|⟨-,rfl,L',hf,hT⟩)
   ·rw[HZ.b]at hc;cases hc
   have hT3:=HZ.c.step (Perm.refl _) hT;have HTe:=qqH (bQ .nilIface 0 w3 (HH.c.keep hT3.mods (fun h=>by simp at h)) (.inl ⟨rfl,rfl⟩));have H3:=Hq2 hT3 hf;clear hT hT3 hf x1 xl;go_wp2_with fail;refine HTe.out.mono ?_;rintro e w4 ⟨rfl,hs4⟩;have HT4:=qqH (H3.a.Q9 hs4);clear hs4;go_wp2_with fail;have hq6:q<1000000:=H1.b;have hln:=HZ.a.len;have hom:=HZ.x;obtain⟨rs,H,t,hfl⟩:=HZ.a.told;have hf:=H3.z;go_ret2;refine⟨x,b,q,hv2,Rs,{ Z with S:=js Z.S L' },l.length,dy (l.take l.length),rfl,?_,hq6,⟨by omega,hl4,hom⟩,HZ.a.his,HZ.a.pb.flush hf,HZ.a.la.ar.flush hf,HZ.a.pok,HZ.a.refs,⟨rs,H,t.flush hf.2.2.1,hfl.same rfl hf.2.1 hf.2.2.1⟩,hf.2.2.2.1.trans hf.2.2.1.symm,hf.2.2.2.2⟩;show Turns [] ((x,Is (aZ (aA Z.S.X.d) (aA Z.S.a) q b))::(fh b hv2 (Rs.map (·.blk)) 0++(Rs.flatMap aN++(bh Z.P++arF { Z.S with L:=L',X:={ Z.S.X with closed:=true } })))) w w4;exact HT4.out.to ae
end
section
open Go.RowKit
def vK(d:Nat)(L:DevL)(w:World)(e:Ending)(w':World):Prop :=
 ∃L',e=.returned (.tuple #[])/\Turns (az d L) (az d L') w w'/\DevOk L'/\L'.n=L.n/\L'.now=L.now/\L'.safe=L.now/\L'.chs=[]
theorem yT(d:Nat)(L:DevL)(keep:Nat)(w:World)(h:Sat w (az d L))(hL:DevOk L)(hc:L.chs=[])(hs:L.safe=L.now):
  Calls Tryz.prog 31 #[.pointer (some ⟨d,0,none⟩),.int .u64 keep] w (vK d L w):=by
 have hd:=h.Q5;have hrow:Sat w (bN 110 129 L.chv L.chs.length (bG L.chs)):=h.tail.tail.tail;obtain⟨-,-,sl,cap,hv,-,-⟩:=dl hrow hL.row;rw[hc]at hv;have hv:L.chv=.slice sl 0 cap:=hv;have c2:w.cell? ⟨d,2,none⟩=some (.slice sl 0 cap):=by rw[<- hv];exact aa hd 2 rfl
 have hdl:=ac hd;have HH:=Hq5 h hL hc hs hv;clear h hL hc hs hd hrow hv;go_enter Tryz.func31,Tryz.ntmps31;go_wp2_with fail;go_loopw [11] (fun i wr=>i=.int .i64 0/\wr=w) (fun _ _=>0)
 case atStart=>exact⟨rfl,rfl⟩
 case round =>
  obtain⟨rfl,rfl⟩:=hrel;go_upto_region 6 with(fail)
  have k0:Turns (az d L) ((L.nb,Is (.cells (ay L.now) 43 (0,0)))::((d,Is (jk L.sb L.nb L.n L.chv))::(L.sb,Is (.cells (ay L.safe) 43 (0,0)))::bN 110 129 L.chv L.chs.length (bG L.chs))) wr wr:=by
   refine(Turns.refl HH.a).to ?_;unfold az jk;exact ae
  have HK:=qqH k0;clear k0;refine cL [([0,1,2,3,4,5,6,7],8,[])] [] HM.out (by kernel_rfl) fun W tW=>?_
  simp only[Mix,map_cons,map_nil,nth,QG,QF];have k0:=tW HK.out;clear tW;have g0:W.cell? ⟨d,0,none⟩=some (.slice (some ⟨L.sb,0,none⟩) L.n L.n):=aa (k0.sat.Q7 (b:=d) (o:=jk L.sb L.nb L.n L.chv) (by simp)) 0 rfl;have g1:W.cell? ⟨d,1,none⟩=some (.slice (some ⟨L.nb,0,none⟩) L.n L.n):=aa (k0.sat.Q7 (b:=d) (o:=jk L.sb L.nb L.n L.chv) (by simp)) 1 rfl;repeat still_step
  have hl1:(L.safe.map am).length=L.n*128:=by rw[length_map,HH.b.safeL];omega
  have hl2:(L.now.map am).length=L.n*128:=by rw[length_map,HH.b.nowL];omega
  refine wpStill_nil (rp (.tmp 35) (.tmp 39) 102 102 rfl 43 Tryz.underlying102 128 qj L.nb L.n L.n L.sb L.n (L.now.map am) (L.safe.map am) 43 43 rfl rfl k0 (k0.sat.Q7 (b:=L.sb) (o:=.cells (ay L.safe) 43 (0,0)) (by simp)) hl1 hl2 (dA _) fun w2 hT2=>⟨rfl,?_⟩);simp only[Act.put,QA,QB,QC];refine wpStill_nil ?_
  have hT2:Turns (az d L) ((d,Is (.cells #[.slice (some ⟨L.sb,0,none⟩) L.n L.n,.slice (some ⟨L.nb,0,none⟩) L.n L.n,L.chv,.int .i64 (-1)] 105 (0,0)))::((L.nb,Is (.cells (ay L.safe) 43 (0,0)))::(L.sb,Is (.cells (ay L.safe) 43 (0,0)))::bN 110 129 L.chv L.chs.length (bG L.chs))) wr w2:=by
   have hT2:Turns (az d L) ((L.nb,Is (.cells (ay L.safe) 43 (0,0)))::((d,Is (jk L.sb L.nb L.n L.chv))::(L.sb,Is (.cells (ay L.safe) 43 (0,0)))::bN 110 129 L.chv L.chs.length (bG L.chs))) wr w2:=hT2;refine hT2.to ?_;unfold jk;exact ae
  clear k0 g0 g1 hl1 hl2;have hdl2:=ac hT2.sat.Q5;have HT2:=qqH hT2;clear hT2;go_upto_region 7 with(fail);go_wp2_with (first|(refine ai rfl (bu 103 (.tmp 43) (.const (.slice none 0 0)) rfl d 2 #[.slice (some ⟨L.sb,0,none⟩) L.n L.n,.slice (some ⟨L.nb,0,none⟩) L.n L.n,L.chv,.int .i64 (-1)] 105 (.slice none 0 0) HT2.out rfl rfl (by simp) (by kernel_rfl) rfl rfl ?_);intro w3 hT3;have HT3:=qqH hT3;clear hT3;simp only[Act.put])|(refine ai rfl (bu 3 (.tmp 46) (.const (.int .i64 (-1))) rfl d 3 #[.slice (some ⟨L.sb,0,none⟩) L.n L.n,.slice (some ⟨L.nb,0,none⟩) L.n L.n,.slice none 0 0,.int .i64 (-1)] 105 (.int .i64 (-1)) HT3.out rfl rfl (by simp) (by kernel_rfl) rfl rfl ?_);intro w4 hT4;have HT4:=qqH hT4;clear hT4;simp only[Act.put])|fail);refine bodyPost_end (results_none rfl _ _ _) rfl ⟨{ L with now:=L.now,safe:=L.now,chv:=.slice none 0 0,chs:=[] },rfl,?_,⟨HH.b.hn,HH.b.nowL,HH.b.nowL,⟨rfl,fun _=>⟨rfl,rfl⟩⟩,(fun _ hc=>by cases hc),rfl⟩,rfl,rfl,rfl,rfl⟩;have hT4:=HT4.out;rw[HH.d]at hT4;exact Turns.left (H:=bN 110 129 L.chv L.chs.length (bG L.chs)) hT4
end
section
open Go.RowKit Go.Maps
def kP:Bs:=[97,47,98]
def ki:Bs:=[99,111,110,116,101,110,116]
theorem AD(w:World)(hE:cG w):Calls Tryz.prog 12 #[] w (fun e w'=>e=.returned (.bool true)/\aX w w'):=by
 have HN:=qqH (jr 200 (by omega) w);have HE:=qqH hE;clear hE;go_enter Tryz.func12,Tryz.ntmps12;go_wp2_with fail;refine HN.out.mono ?_;rintro e w1 ⟨d,L,rfl,hT,hL,hn,hnow,hch⟩;have HO:=qqH (sR d L 1000 w1 hT.sat hL (by omega) (by omega) (by rw[hch];simp) (fun k hk=>by rw[hnow];simp only[aC,ak,drop_replicate,take_replicate];congr 1;omega) (by omega));have H1:=Hq2 hT hn;clear hT hL hn hnow hch;go_wp2_with fail;refine HO.out.mono ?_;rintro e w2 ⟨S,rfl,hst,hT⟩;rw[H1.z]at hst;have hT2:=H1.a.trans hT;have HTe:=qqH (bQ .nilIface 0 w2 (HE.out.keep hT2.mods (fun h=>by simp at h)) (.inl ⟨rfl,rfl⟩));have H2:=Hq2 hT2 hst;clear hT hT2 hst;go_wp2_with fail;refine HTe.out.mono ?_;rintro e w3 ⟨rfl,hs3⟩;have H3:=qqH (H2.a.Q9 hs3);clear hs3
 have hcv:Sem.run Tryz.prog (convert 38 38 (.slice (some ⟨w3.heap.size,0,none⟩) 7 7)) (w3.alloc (.cells #[.int .u8 99,.int .u8 111,.int .u8 110,.int .u8 116,.int .u8 101,.int .u8 110,.int .u8 116] 5))=.ok (.slice (some ⟨w3.heap.size,0,none⟩) 7 7) (w3.alloc (.cells #[.int .u8 99,.int .u8 111,.int .u8 110,.int .u8 116,.int .u8 101,.int .u8 110,.int .u8 116] 5 (7,8))) :=
  Go.Lib.run_convert_bytes_const w3 38 5 _ 7 7 Tryz.underlying38 Tryz.underlying5
 go_wp2_with fail;clear hcv;have hT4:Turns [] (arF S) w (w3.alloc (.cells #[.int .u8 99,.int .u8 111,.int .u8 110,.int .u8 116,.int .u8 101,.int .u8 110,.int .u8 116] 5 (7,8))):=H3.out.alloc _;have hA:(#[.int .u8 99,.int .u8 111,.int .u8 110,.int .u8 116,.int .u8 101,.int .u8 110,.int .u8 116]:Array Value)=(ki.map am).toArray:=rfl
 have hc4:al (w3.alloc (.cells #[.int .u8 99,.int .u8 111,.int .u8 110,.int .u8 116,.int .u8 101,.int .u8 110,.int .u8 116] 5 (7,8))) (some ⟨w3.heap.size,0,none⟩) (ki.map am):=fun _=>⟨_,0,rfl,fun j hj=>by
  rw[Nat.zero_add];refine aa (aK _ _) j ?_;rw[hA,getElem?_toArray];exact getElem?_eq_getElem hj⟩
 have hnd:w3.heap.size∉dom (arF S):=fun h=>by have:=H3.out.sat.lt h;omega
 generalize w3.alloc (.cells #[.int .u8 99,.int .u8 111,.int .u8 110,.int .u8 116,.int .u8 101,.int .u8 110,.int .u8 116] 5 (7,8))=w4 at hT4 hc4 ⊢;generalize w3.heap.size=B at hc4 hnd ⊢;obtain⟨X,hX⟩:∃X:WS,X=⟨⟨0,0,none,0,.nilIface,.nilIface,.nilIface⟩,S,⟨0,.slice none 0 0,[],.slice none 0 0,[],1000,false⟩,[],[],[],[]⟩:=⟨_,rfl⟩;have hXS:X.S=S:=by rw[hX]
 have hLA:LA X:=by
  rw[hX];exact⟨oY H2.z rfl rfl (by show(1000:Int)=c9 1000;decide) rfl,H2.b⟩
 have hPB:PB X 0 0 200:=by
  obtain⟨s1,s2,s3,s4,s5,s6,s7,s8,s9,s10,s11,s12,s13,s14,-⟩:=H2.z;rw[hX];exact⟨s2,by simp,by simp,by simp,(by intro v hv;cases hv),by rw[s11];simp,s12,by rw[s4];decide,AB.start H2.z,⟨[],[],mf H2.z⟩,by rw[s14];omega⟩
 have HP:Hid (Calls Tryz.prog 25 #[.pointer (some ⟨S.a,0,none⟩),.string ⟨#[97,47,98]⟩,.slice (some ⟨B,0,none⟩) 7 7] w4 (xG S kP ki 0 w4)):=by
  obtain⟨s1,s2,s3,s4,-⟩:=H2.z;exact qqH (vO S kP ki (some ⟨B,0,none⟩) 7 0 w4 hT4.sat s1 s2 (by omega) hc4 (by decide) (by decide) (fun _ x hx=>by obtain rfl:=Option.some.inj hx;exact hnd) (by decide) (by rw[s4];decide))
 have H4:=Hq5 hT4 hXS hLA hPB (congrArg (·.R) hX);clear hT4 hA hc4 hnd hX hXS hLA hPB;refine HP.out.mono ?_;intro e w5 hp
 obtain⟨S1,V,he,hcd,hps,hok1,hpb,hT⟩:∃S1 V,e=.returned (.tuple #[.int .i64 1,.nilIface])/\(S1.X.closed=false/\S1.X.d=d)/\PutStep S S1 kP ki V/\ArOk S1/\xF S ki 0 S1/\Turns (arF S) (arF S1) w4 w5:=by
  obtain⟨s1,s2,s3,s4,s5,s6,s7,s8,s9,s10,s11,s12,s13,s14,-⟩:=H2.z;rcases hp with⟨n,-,-,hn⟩|⟨-,-,-,-,⟨sp,chs,-,-,-,hfull,hchs⟩|⟨S1,V,rfl,hps,hok1,hpb,hT⟩⟩
  ·exfalso;rcases hn with⟨a,-⟩|⟨-,a,-⟩|⟨-,-,a,-⟩|⟨-,-,-,a,-⟩
   ·rw[s3]at a;cases a
   ·revert a;decide
   ·revert a;decide
   ·rw[s4,s5]at a;revert a;decide
  ·exfalso;have h1:=A0 (S:=S) (l:=kP) (D:=ki) (by decide) (n:=(eM (af S.ps kP):Int)+1) (s:=(ki.length:Int)) hchs;have h2:=s1.count;rw[s12]at h2;rw[s11,h2]at hfull;have h3:ki.length=7:=rfl;have h4:ap 200=99:=rfl;rw[h4]at hfull;simp only[length_nil]at hfull;omega
  ·refine⟨S1,V,?_,⟨hps.closed.trans s3,hps.d.trans s13⟩,hps,hok1,hpb,hT⟩;rw[s8];rfl
 subst he;have hpv:aw kP=true:=by decide
 have hpt:(kP.length<=20/\ki.length<=4000):=by decide
 obtain⟨M',hM⟩:∃M':List SlB,M'.map (·.bs)=eF (X.M.map (·.bs)) (aB ki):=⟨(eF (X.M.map (·.bs)) (aB ki)).map (fun b=>⟨.nilIface,b⟩),by rw[map_map];exact map_id _⟩;have hps':PutStep X.S S1 kP ki V:=by rw[H4.b];exact hps
 have hpb':xF X.S ki (0+2*0) S1:=by rw[H4.b];exact hpb
 obtain⟨R1,hR1⟩:∃R1:RefL,R1={ X.R with vv:=.slice none 0 0,vs:=cN X.R.vs kP ⟨kP,gU X.R.vs kP X.R.vs.length,ki,.slice none 0 0,0⟩ }:=⟨_,rfl⟩;have hL1:Link S1 R1:=by rw[hR1];exact H4.c.link.put H4.c.ar hok1 hps' hpv hpt.2 (vv:=.slice none 0 0) (cv:=.slice none 0 0)
 obtain⟨o,ho⟩:∃o:OpL,o=⟨1,0,0,0,kP,[],.slice none 0 0,ki⟩:=⟨_,rfl⟩;have hos:o.s=kP/\o.d=ki:=by rw[ho];exact⟨rfl,rfl⟩
 obtain⟨X1,hX1⟩:∃X1,X1=IW X o S1 (.slice none 0 0) (.slice none 0 0) .nilIface M':=⟨_,rfl⟩;have hX1S:X1.S=S1/\X1.R=R1:=by rw[hX1,hR1,ho];exact⟨rfl,rfl⟩
 have hPB1:PB X1 (0+1) (0+o.d.length) 200:=by
  have:=H4.d.putL H4.c (o:=o) (S':=S1) (V:=V) (vv:=.slice none 0 0) (cv:=.slice none 0 0) (mv:=.nilIface) (M':=M') (by rw[hos.1,hos.2];exact hps') (by rw[hos.2];exact hpb') (by rw[hos.2];exact hpt.2) (by rw[hos.1];exact hpv) (by rw[hos.2];exact hM) ⟨by rw[<- hX1,hX1S.1,hX1S.2];exact hL1,hok1⟩ (by omega) (by rw[hos.2];decide);rw[hX1];exact this
 have hT5:=H4.a.trans hT
 have HSy:Hid (Calls Tryz.prog 47 #[.pointer (some ⟨S.a,0,none⟩)] w5 (zj S1 w5)):=by
  rw[<- hps.a];exact qqH (oB S1 (0+o.d.length+2*(0+1)) w5 hT5.sat hok1 (by have:=hPB1.b;rw[hX1S.1]at this;exact this) (by rw[hos.2];decide))
 have HCD:=qqH hcd;clear hcd;have H5:=Hq8 hT5 hps' hok1 hL1 hX1S hPB1 hos hR1;clear hT hp hps hps' hpb hpb' hok1 hM hL1 hX1 hX1S hPB1 hT5 ho hos hR1 HP;go_wp2_with fail;refine HSy.out.mono ?_;rintro e w6 (⟨hc,-⟩|⟨-,rfl,L2,hf,hT⟩)
 ·rw[HCD.a]at hc;cases hc
 have hd1:S1.X.d=d:=HCD.z
 have hT6:Turns [] (az d L2++((S1.a,Is (aH S1.X))::(aq S1.X.ab S1.X.d S1.A++(aF S1.X.pm S1.ps S1.pc++(b8 S1.X.tm S1.ts S1.tc++aM S1.X.cm S1.cs S1.cc))))) w w6:=by
  have h1:Turns [] ((S1.a,Is (aH S1.X))::(aq S1.X.ab S1.X.d S1.A++(az S1.X.d L2++(aF S1.X.pm S1.ps S1.pc++(b8 S1.X.tm S1.ts S1.tc++aM S1.X.cm S1.cs S1.cc))))) w w6:=H5.a.trans hT;rw[<- hd1];generalize aH S1.X=q1 at h1 ⊢;generalize aq S1.X.ab S1.X.d S1.A=q2 at h1 ⊢;generalize aF S1.X.pm S1.ps S1.pc=q3 at h1 ⊢;generalize b8 S1.X.tm S1.ts S1.tc=q4 at h1 ⊢;generalize aM S1.X.cm S1.cs S1.cc=q5 at h1 ⊢;exact h1.to ae
 have HCr:Hid (Calls Tryz.prog 31 #[.pointer (some ⟨d,0,none⟩),.int .u64 0] w6 (vK d L2 w6)):=qqH (yT d L2 0 w6 hT6.sat.left hf.1 hf.2.2.2.2 (by rw[hf.2.2.2.1,hf.2.2.1]));have H6:=Hq3 hT6 hf hd1;clear hT hT6 hf hd1;go_wp2_with fail;refine HCr.out.mono ?_;rintro e w7 ⟨L3,rfl,hT,c1,c2,c3,c4,c5⟩;have hT7:=H6.a.step (Perm.refl _) hT;have hcp:xy (js S1 L2).L L3:=⟨c1,c2,c3,c4,c5⟩;have hok2:ArOk (js S1 L2):=H5.c.flush H6.b;have hPB2:PB { X1 with S:=js X1.S L2 } (0+1) (0+o.d.length) 200:=H5.f.flush (by rw[H5.e.1];exact H6.b);rw[H5.e.1]at hPB2;obtain⟨rs,H,t⟩:∃rs H,Told (js S1 L2) rs H:=hPB2.told;have hn2:(js S1 L2).L.n=200:=hPB2.n
 have hdd:(js S1 L2).data.length<=810000:=by
  have h1:=hok2.dat.2;have h2:=hok2.count;rw[hn2]at h2;have h4:ap 200=99:=rfl;rw[h2,h4]at h1;omega
 have HO2:=qqH (t.opensG hok2 (by rw[hn2];omega) hdd d L3 1000 w7 hcp hT7.sat.left);have H7:=Hq5 hT7 hcp hok2 hPB2 t;clear hT c1 c2 c3 c4 c5 hT7 hcp hok2 hPB2 t hn2 hdd;go_wp2_with fail;refine HO2.out.mono ?_;rintro e w8 ⟨S3,rfl,ho3,hT⟩;obtain⟨hok3,hv,hu,-,-,-,-,-⟩:=H7.w.Qk H7.c H7.b ho3;obtain⟨-,-,q3,q4,-⟩:=ho3.eX;have hPB3:=H7.d.opened H7.c (q:=1000) (by omega) H7.b ho3 (b':=0) (vv':=.nilIface) (tv':=.nilIface);have hB3:ArB S3 (0+o.d.length+2*(0+1)):=hPB3.b
 have hR1q:R1.quota=1000/\R1.closed=false/\R1.vs=cN [] kP ⟨kP,gU [] kP 0,ki,.slice none 0 0,0⟩:=by
  rw[H5.t,H4.w];exact⟨rfl,rfl,rfl⟩
 have hL3:Link S3 R1:=kA H5.d hv hu rfl rfl (by rw[q3,hR1q.1];decide) (by rw[q4,hR1q.2.1]);obtain⟨V3,hV3,hcv3⟩:=hL3.get q4 (v:=⟨kP,gU [] kP 0,ki,.slice none 0 0,0⟩) (by rw[hR1q.2.2];exact lO.2 (.inr rfl));have hV3:gB S3 kP 1 V3:=hV3;have hcv3:da S3 V3=ki:=hcv3;have hT8:=H7.a.step (Perm.refl _) hT;have HT1:=qqH (bQ .nilIface 0 w8 (HE.out.keep hT8.mods (fun h=>by simp at h)) (.inl ⟨rfl,rfl⟩));have H8:=Hq5 hT8 hok3 hB3 hV3 hcv3;clear hT ho3 hok3 hv hu q3 q4 hPB3 hB3 hR1q hL3 hV3 hcv3 hT8;go_wp2_with fail;refine HT1.out.mono ?_;rintro e w9 ⟨rfl,hs9⟩;have hT9:=H8.a.Q9 hs9;have HT2:=qqH (bQ .nilIface 0 w9 (HE.out.keep hT9.mods (fun h=>by simp at h)) (.inl ⟨rfl,rfl⟩));have H9:=qqH hT9;clear hs9 hT9;go_wp2_with fail;refine HT2.out.mono ?_;rintro e w10 ⟨rfl,hs10⟩;have hT10:=H9.out.Q9 hs10;have HT3:=qqH (bQ .nilIface 0 w10 (HE.out.keep hT10.mods (fun h=>by simp at h)) (.inl ⟨rfl,rfl⟩));have H10:=qqH hT10;clear hs10 hT10;go_wp2_with fail;refine HT3.out.mono ?_;rintro e w11 ⟨rfl,hs11⟩;have hT11:=H10.out.Q9 hs11;have HG:Hid (Calls Tryz.prog 27 #[.pointer (some ⟨S3.a,0,none⟩),.string ⟨#[97,47,98]⟩,.int .i64 1] w11 (DZ S3 kP 1 w11)):=qqH (vM S3 kP 1 (0+o.d.length+2*(0+1)) w11 hT11.sat.left H8.b H8.c (by rw[H5.g.2];decide) (by decide));have H11:=qqH hT11;clear hs11 hT11;go_wp2_with fail;refine HG.out.mono ?_;rintro e w12 (⟨k,hk,-⟩|⟨V4,v,sp,hf4,rfl,hbv,-,hT⟩)
 ·exact(wA H8.d hk).elim
 obtain rfl:=hf4.uniq H8.d;rw[H8.w]at hbv hT;have hT12:=H11.out.step (Perm.refl _) hT;obtain⟨sl,cap,rfl,-,-,hcl,-⟩:=bC hT12.sat.left.left hbv (by decide);have hstr:Sem.run Tryz.prog (convert 38 9 (.slice sl 7 cap)) w12=.ok (.string ⟨#[99,111,110,116,101,110,116]⟩) w12:=jN (l:=ki) cap hcl;have HT4:=qqH (bQ .nilIface 0 w12 (HE.out.keep hT12.mods (fun h=>by simp at h)) (.inl ⟨rfl,rfl⟩));have H12:=qqH hT12;have hlen:ki.length=7:=rfl;rw[hlen];clear hT hbv hT12 hcl hf4 hlen;go_wp2_with fail;refine HT4.out.mono ?_;rintro e w13 ⟨rfl,hs13⟩;have H13:=qqH (H12.out.Q9 hs13);clear hs13;go_wp2_with fail;go_ret;exact ⟨rfl,H13.out.news⟩
theorem sy{D:Bs}{X:ArchL}{ps:List aW}{pc:Nat}{cs:List kg}{cc:Nat}{ts:List fq}{tc:Nat}{sz:List (Ent Int)}{szc at_:Nat}{s:PSt}(hct:CtOk D X ps pc cs cc ts tc sz szc at_ s):∀p∈ps,∀V∈p.g,∃h∈s.H,h.p=p.key/\cy h=bp V:=fun p hp V hV=>by
 have h1:=hct.hist p.key
 rw[eD hct.paths hp]at h1
 have h2:bp V∈p.g.map bp:=mem_map.2 ⟨V,hV,rfl⟩
 rw[h1]at h2
 obtain⟨h,hh,e⟩:=mem_map.1 h2
 exact⟨h,(mem_filter.1 hh).1,by simpa using(mem_filter.1 hh).2,e⟩
theorem OpenIs.ok{d:Nat}{L:DevL}{q:Int}{e:Nat}{D:Bs}{S:AS}(ho:OpenIs d L q e D S)(hn:16<=L.n/\L.n<=1073741824)(he:e<4294967296):ArOk S:=by
 obtain⟨at_,s,sz,szc,hct,-,hdat,hK⟩:=ho.ct;obtain⟨-,e2,-,-,e5⟩:=ho.eX;refine⟨ho.dev.1,by rw[ho.dev.2.1];exact hn.1,by rw[ho.dev.2.1];exact hn.2,⟨by rw[ho.A.2.2.2.1];exact l6 _,by rw[ho.A.2.2.2.2];simp,by rw[ho.A.2.2.2.2];intro s hs;cases hs⟩,by rw[ho.A.1,e2,ho.dev.2.1],by rw[ho.A.2.1,ho.dev.2.1],ho.A.2.2.1,ho.A.2.2.2.1,ho.dat,hct.paths,hct.tags,hct.chunks,?_,?_,?_,hct.nem,e5,by rw[e2];exact he⟩
 ·intro k;rw[<- hK];exact hct.kin k
 ·intro x hx;rw[<- hK]at hx;obtain⟨h1,-,h3⟩:=hct.kat x hx;exact⟨h1,by rw[hdat];exact h3⟩
 ·intro p hp V hV;obtain⟨h,hh,-,e⟩:=sy hct p hp V hV;obtain⟨h1,h2⟩:=hct.chsK h hh;unfold cy bp at e;simp only[Prod.mk.injEq]at e;rw[<- hK,<- e.2.1,<- e.2.2.1];exact⟨h1,h2⟩
theorem OpenIs.bound{d:Nat}{L:DevL}{q:Int}{e:Nat}{D:Bs}{S:AS}(ho:OpenIs d L q e D S)(hD:D.length<=810000)(hq:S.X.quota.natAbs<=9223372036854775807):ArB S 90000:=by
 obtain⟨at_,s,sz,szc,hct,-,hdat,hK⟩:=ho.ct;have hle:=hct.le;have hc:=hct.cnt.n;have hKl:(s.K.map (·.1.length)).sum<=65535*s.K.length:=mX (fun e he=>(hct.kat e he).2.1);have hHl:(s.H.map (·.size)).sum<=65535*s.H.length:=mX (fun h hh=>(hct.cnt.size h hh).2.2.1);have hT:=congrArg length hct.tagT;rw[length_map]at hT;refine⟨by rw[<- hK];omega,?_,by omega,fun p hp=>?_,fun p hp=>?_,by rw[hct.used];omega,by rw[hct.sc];omega,by rw[hct.sb];omega,hq,by rw[ho.dev.2.2.2];simp⟩
 ·have h1:(S.ps.map (·.key)) ⊆ (s.H.map (·.p)):=fun k hk=>by
   obtain⟨p,hp,rfl⟩:=mem_map.1 hk;obtain⟨V,hV⟩:=exists_mem_of_ne_nil _ (hct.nem p hp);obtain⟨h,hh,e,-⟩:=sy hct p hp V hV;exact mem_map.2 ⟨h,hh,e⟩
  have h3:=(j6 hct.paths).length_le_of_subset h1;rw[length_map,length_map]at h3;omega
 ·obtain⟨V0,hV0⟩:=exists_mem_of_ne_nil _ (hct.nem p hp);obtain⟨h0,hh0,e0,-⟩:=sy hct p hp V0 hV0;have h1:=hct.hist p.key;rw[eD hct.paths hp]at h1;have h2:=congrArg length h1;rw[length_map,length_map]at h2;have h3:=length_filter_le (fun h:HV=>decide (h.p=p.key)) s.H;refine⟨by rw[<- e0];exact(hct.cnt.size h0 hh0).1,by omega,fun V hV=>?_⟩;obtain⟨h,hh,-,ev⟩:=sy hct p hp V hV;obtain⟨-,c2,c3,c4⟩:=hct.cnt.size h hh;have c5:=hct.cnt.held h hh;unfold cy bp at ev;simp only[Prod.mk.injEq]at ev;rw[<- ev.1,<- ev.2.1,<- ev.2.2.1,<- ev.2.2.2];exact⟨by omega,by omega,by omega,by omega⟩
 ·have h1:ex p∈s.T:=by rw[<- hct.tagT];exact mem_map.2 ⟨p,hp,rfl⟩
  obtain⟨c1,c2,c3,c4⟩:=hct.cnt.tag _ h1;have c3:0<=p.g.2:=c3;have c4:p.g.2<4294967296:=c4;exact⟨c1,c2,by omega⟩
theorem OpOk.old2{w W:World}{o:OpL}(h:OpOk w o)(hs:aX w W):OpOk W o where
 a:=h.a
 b:=h.b
 c:=h.c
 s:=h.s
 t:=h.t
 d:=h.d
 dv:=by obtain⟨sl,cap,e,h1,h2,hc⟩:=h.dv;exact⟨sl,cap,e,h1,h2,hc.keep hs (fun _ _ _=>id)⟩
theorem OpenIs.linked{d:Nat}{L:DevL}{q:Int}{e:Nat}{D:Bs}{S:AS}(ho:OpenIs d L q e D S){R:RefL}{at_:Nat}{s:PSt}{sz:List (Ent Int)}{szc:Nat}(hct:CtOk D S.X S.ps S.pc S.cs S.cc S.ts S.tc sz szc at_ s)(hK:s.K=S.K)(hl:LinkP s R)(hq:R.quota=c9 q)(hc:R.closed=false):Link S R:=by
 obtain⟨-,-,e3,e4,-⟩:=ho.eX;exact hl.link hK.symm hct.hist hct.tagT hct.used (by rw[e3];exact hq) (by rw[e4];exact hc)
theorem yZ(l:List OpL)(sl:Option Addr)(cap:Nat)(Q:Int)(B:Nat)(low:Bool)(w:World)(h:al w sl (uo l))(hok:∀o∈l,OpOk w o)(hcap:l.length<=1125899906842624)(hE:cG w)(hB:B<18446744073709551616):
  Calls Tryz.prog 8 #[.slice sl l.length cap,.int .i64 Q,.int .u64 B,.bool low] w (fun e w'=>e=.returned (.bool true)/\aX w w'):=by
 have HL:=qqH (AD w hE);have HH:=Hq5 h hok hE hB hcap;clear h hok hE hB hcap;go_enter Tryz.func8,Tryz.ntmps8;go_wp2_with fail;refine HL.out.mono ?_;rintro e w1 ⟨rfl,hs1⟩;have hc1:=HH.a.keep hs1 (fun _ _ _=>id);have ho1:∀o∈l,OpOk w1 o:=fun o ho=>(HH.b o ho).old2 hs1
 have HS:=qqH (Bn l sl cap w1 hc1 ho1 HH.w);have H1:=Hq4 hs1 hc1 ho1 (HH.c.keep hs1 (fun h=>h));clear hs1 hc1 ho1 HL;go_wp2_with fail;refine HS.out.mono ?_;rintro e w2 ⟨rfl,hs2⟩;have H2:=qqH hs2;clear hs2
 cases hsm:lZ l with
 | false =>
  go_wp2_with fail;go_ret;exact ⟨rfl,H1.a.trans H2.out⟩
 | true =>
  have hlen:l.length<=400/\dy l<=60000:=by unfold lZ at hsm;simpa using hsm
  have HF:=qqH (xV l sl cap Q w2 (H1.b.keep H2.out (fun _ _ _=>id)) (fun o ho=>(H1.c o ho).old2 H2.out) hlen (H1.x.keep H2.out (fun h=>h)));clear hsm;go_wp2_with fail;refine HF.out.mono ?_;rintro e w3 ⟨x,b,q,hv,Rs,Y,k,m,he,hT,hq6,hlen2,hhis,hpb,har,hpok,hrefs,htold,hsafe,hchs⟩;have he:e=.returned (.tuple #[.pointer (some ⟨x,0,none⟩),.bool true]):=he;subst he;have hx:w3.heap[x]?=some (aZ (aA Y.S.X.d) (aA Y.S.a) q b):=hT.sat.Q5;have x0:w3.cell? ⟨x,0,none⟩=some (.pointer (some ⟨Y.S.X.d,0,none⟩)):=aa hx 0 rfl;have xl:=ac hx
  have hT3:Turns [] (az Y.S.X.d Y.S.L++((x,Is (aZ (aA Y.S.X.d) (aA Y.S.a) q b))::(fh b hv (Rs.map (·.blk)) 0++(Rs.flatMap aN++bh Y.P)))) w2 w3:=by
   have h1:Turns [] ((x,Is (aZ (aA Y.S.X.d) (aA Y.S.a) q b))::(fh b hv (Rs.map (·.blk)) 0++(Rs.flatMap aN++(bh Y.P++((Y.S.a,Is (aH (Ib Y.S).X))::(aq Y.S.X.ab Y.S.X.d Y.S.A++(az Y.S.X.d Y.S.L++(aF Y.S.X.pm Y.S.ps Y.S.pc++(b8 Y.S.X.tm Y.S.ts Y.S.tc++aM Y.S.X.cm Y.S.cs Y.S.cc))))))))) w2 w3:=hT;exact h1.drop (fun y=>by simp only[ah,ao];omega)
  have HC:=qqH (vg Y.S.X.d Y.S.L w3 hT3.sat.left har.dev);have H3:=Hq9 hT3 hq6 hlen2 hhis hpb har hpok hrefs htold;obtain⟨r,hr⟩:∃r:Nat,r=B%40960:=⟨_,rfl⟩;obtain⟨c,hc⟩:∃c:Nat,c=if low=true then r else B:=⟨_,rfl⟩
  have hc64:c<18446744073709551616:=by have:=HH.d;rw[hc];split<;>omega
  have HB:=Hq2 hc64 hc;clear hT hT3 hq6 hlen2 hhis hpb har hpok hrefs htold hsafe hchs hx hc64 hc
  cases low
  all_goals
   go_upto_region 10 with(fail);have hcc:=HB.z;simp only[if_true,if_false,Bool.false_eq_true]at hcc
   first
    | rw[show((B:Int)%40960)=(c:Int) by omega]
    | rw[<- hcc]
   clear hcc;go_wp2_with fail;refine HC.out.mono ?_;rintro e w4 ⟨d2,L2,rfl,hT,hL2,hn2,hnow2,hsafe2,hchs2⟩;have hT4:=H3.a.step (Perm.refl _) hT;have hn648:Y.S.L.n=648:=H3.e.n;have HFl:=qqH (BS d2 L2 c w4 hT4.sat.left.left hL2 hchs2 (by rw[hsafe2,hnow2]) HB.a (by omega));have H4:=Hq4 hT4 hn2 hnow2 hn648;clear hT hT4 hL2 hn2 hnow2 hsafe2 hchs2 hn648;go_wp2_with fail;refine HFl.out.mono ?_;rintro e w5 ⟨L3,p,y,rfl,hT,hL3,hn3,hp3,hy3,hnow3,hsafe3,hchs3⟩;have hT5:=(H4.a.to (H:=az d2 L2++(az Y.S.X.d Y.S.L++((x,Is (aZ (aA Y.S.X.d) (aA Y.S.a) q b))::(fh b hv (Rs.map (·.blk)) 0++(Rs.flatMap aN++bh Y.P))))) ae).step (Perm.refl _) hT;have hx:w5.heap[x]?=some (aZ (aA Y.S.X.d) (aA Y.S.a) q b):=hT5.sat.Q7 (by simp);have x2:w5.cell? ⟨x,2,none⟩=some (.int .i64 q):=aa hx 2 rfl;have xl5:=ac hx;obtain⟨rs,H,told,hfl⟩:=H3.out.2.2.2.2.2.2.2.2;have hn3':L3.n=Y.S.L.n:=hn3.trans H4.b;have hnow3':L3.now=Y.S.L.now.set p y:=by rw[hnow3,H4.c]
   rw[H4.c]at hy3;obtain⟨us,u1,u2,u3,u4⟩:=CR told H3.f hfl hn3' hnow3' hy3;have hn6:L3.n=648:=hn3'.trans H4.x
   have hO:Hid (Calls Tryz.prog 22 #[.pointer (some ⟨d2,0,none⟩),.int .i64 q] w5 (nj d2 L3 q (ey (fB us 2)) w5)):=qqH (y9 d2 L3 us _ q w5 hT5.sat.left hL3 (by omega) (by omega) (by rw[hchs3];simp) u1 rfl u2 u3 (fun pre u rest _ _ at_ s hr=>by
    have h1:=I2 hr;have h2:(au L3.now (2+u.1%2*ap L3.n) (ap L3.n)).length<=128*ap L3.n:=by unfold au;rw[length_take];omega
    rw[hn6]at h1 h2;have h3:ap 648=323:=rfl;rw[h3]at h1 h2;omega))
   have H5:=Hq5 hT5 u4 u3 hn6 hL3;clear hT hT5 hL3 hn3 hp3 hy3 hnow3 hsafe3 hchs3 hx told hfl hn3' hnow3' u1 u2 u3 u4 hn6 x0 xl;go_wp2_with fail;refine hO.out.mono ?_;rintro e w6 (⟨pre,e0,wh,rest,S',hl1,hpre,hwh,rfl,ho,hT⟩|⟨-,rfl,hT⟩)
   ·have hT6:=H5.a.step (Perm.refl _) hT;obtain⟨at_,s,sz,szc,hct,href,hdat,hK⟩:=ho.ct;have hat:at_=S'.data.length:=by rw[hdat,length_take,Nat.min_eq_left hct.le]
    obtain⟨R,hR,hlp⟩:=H5.b pre e0 wh rest hl1 hpre at_ s hct.reach href (by omega);obtain⟨n,hn⟩:=mem_iff_getElem?.1 hR;have hcl:c9 (q:Int)=q:=by unfold c9;split<;>omega
    obtain⟨ra,rb,rc,rd,re,rf,rg⟩:=H3.h R hR;have hlink:Link S' R:=ho.linked hct hK hlp (by rw[rd,hcl]) rc;have he0:e0<4294967296:=(H5.c (e0,wh) (by rw[hl1];simp)).1;have hok':ArOk S':=ho.ok (by rw[H5.d];omega) he0;obtain⟨-,-,e3,e4,-⟩:=ho.eX
    have hbd:ArB S' 90000:=ho.bound (by
     have h2:(au L3.now (2+e0%2*ap L3.n) (ap L3.n)).length<=128*ap L3.n:=by unfold au;rw[length_take];omega
     rw[H5.d]at h2 ⊢;have h3:ap 648=323:=rfl;rw[h3]at h2 ⊢;omega) (by rw[e3,hcl];have:=H3.b;omega)
    have HTe:=qqH (bQ .nilIface 0 w6 ((H1.x.keep H2.out (fun h=>h)).keep hT6.mods (fun h=>by simp at h)) (.inl ⟨rfl,rfl⟩));have H6:=Hq6 hT6 hn hlink hok' hbd e4;clear hT hT6 hct href hdat hK hat hR hlp hn hcl ra rb rc rd re rf rg hlink he0 hok' e3 e4 hbd ho hpre hwh hl1;go_wp2_with fail;refine HTe.out.mono ?_;rintro e w7 ⟨rfl,hs7⟩;have hE2:cG w2:=H1.x.keep H2.out (fun h=>h);obtain⟨I,hI⟩:∃I:World->Prop,I=fun W=>∃sp,AreaOk { S'.A with spare:=sp }/\Turns [] (arF (bK S' sp)++(az Y.S.X.d Y.S.L++((x,Is (aZ (aA Y.S.X.d) (aA Y.S.a) q b))::(fh b hv (Rs.map (·.blk)) 0++(Rs.flatMap aN++bh Y.P))))) w2 W:=⟨_,rfl⟩
    have hI7:I w7:=by
     rw[hI];exact⟨S'.A.spare,H6.d.area,H6.a.Q9 hs7⟩
    have hIs:∀W,I W->Sat W (az Y.S.X.d Y.S.L++((x,Is (aZ (aA Y.S.X.d) (aA Y.S.a) q b))::(fh b hv (Rs.map (·.blk)) 0++(Rs.flatMap aN++bh Y.P)))):=fun W hW=>by
     rw[hI]at hW;obtain⟨sp,-,hT⟩:=hW;exact hT.sat.right
    have hx:w7.heap[x]?=some (aZ (aA Y.S.X.d) (aA Y.S.a) q b):=(hIs w7 hI7).right.Q5;have x3:w7.cell? ⟨x,3,none⟩=some (.pointer (some ⟨b,0,none⟩)):=aa hx 3 rfl;have xl7:=ac hx
    have HP:Hid (Calls Tryz.prog 45 #[.pointer (some ⟨b,0,none⟩),.pointer (some ⟨S'.a,0,none⟩),.int .i64 0,.bool true] w7 (fun e w'=>∃r,e=.returned (.int .i64 r)/\sv (fun n=>∃R,Rs[n]?=some R/\Link S' R) 0 (Rs.map (·.blk)).length r/\I w')) :=
     qqH (qc b hv (Rs.map (·.blk)) 0 (.pointer (some ⟨S'.a,0,none⟩)) 0 true I (fun n=>∃R,Rs[n]?=some R/\Link S' R) (fun W hW=>(hIs W hW).right.tail.left) H3.d (fun W n p hW hp=>by
      rw[getElem?_map]at hp;obtain⟨R1,hR1,rfl⟩:=Option.map_eq_some_iff.1 hp;have hsat:=hIs W hW;rw[hI]at hW;obtain⟨sp,hsp,hT⟩:=hW;have hm1:R1∈Rs:=mem_of_getElem? hR1;obtain⟨ra,rb,rc,rd,re,rf,rg⟩:=H3.h R1 hm1;refine(uf (bK S' sp) R1 Y.P 90000 _ true w2 W hT (H6.d.spare hsp) (H6.e.spare sp) (by omega) H6.v rc (by have:=H3.c;omega) (fun W2 hW2=>⟨Sat.flat (f:=aN) hW2.right.tail.right.left hm1,ra,hW2.right.tail.right.right,H3.g,rb,by have:=H3.c;omega,fun v hv=>by have:=(rg v hv).2;omega⟩) hE2 (fun v hv=>by have:=(rg v hv).1;omega)).mono ?_;rintro e w' ⟨z,sp2,rfl,h1,h2,h3⟩;refine⟨z,rfl,fun⟨R2,hR2,hl⟩=>?_,?_⟩
      ·rw[hR1]at hR2;obtain rfl:=Option.some.inj hR2;exact h1 (hl.spare sp)
      ·rw[hI];exact⟨sp2,h2,h3⟩) w7 hI7 (by rw[length_map];have:=H3.c;omega) (by omega))
    have H7:=Hq2 hI hE2;clear hI hI7 hIs hx hs7 hE2;go_wp2_with fail;refine HP.out.mono ?_;rintro e w8 ⟨r8,rfl,hpre,hI8⟩
    have hr8:0<=r8:=by
     rcases Int.lt_or_le r8 0 with h|h
     ·exfalso;have h1:=hpre.1;have hlt:n<Rs.length:=(List.getElem?_eq_some_iff.1 H6.b).1;exact hpre.2.2 (by omega) n (Nat.zero_le _) (by rw[length_map];exact hlt) ⟨R,H6.b,H6.c⟩
     ·exact h
    have hs8:aX w w8:=by
     rw[H7.a]at hI8;obtain⟨sp,-,hT⟩:=hI8;exact H1.a.trans (H2.out.trans hT.news)
    have H8:=qqH hs8;clear hpre hI8 hs8 x3 xl7;go_wp2_with fail;go_ret;exact ⟨by simp[],H8.out⟩
   ·have hT6:=H5.a.step (Perm.refl _) hT;have HTe:=qqH (bQ (cO 10) 10 w6 ((H1.x.keep H2.out (fun h=>h)).keep hT6.mods (fun h=>by simp at h)) (.inr (.inl rfl)));have H6:=qqH hT6;clear hT hT6;go_wp2_with fail;refine HTe.out.mono ?_;rintro e w7 ⟨rfl,hs7⟩;have hfin:aX w w7:=H1.a.trans (H2.out.trans (H6.out.Q9 hs7).news);clear hs7;go_wp2_with fail;go_ret;exact ⟨rfl,hfin⟩
end
section
open Go.ChangeShapes Go.WideShapes Go.ChangeAt Go.RowKit
def D3(k:IntKind)(w:World)(a:Option Addr)(len cap:Nat)(zs:List Int):Prop :=
 (a=none/\len=0/\cap=0/\zs=[]) \/
 ∃x,a=some x/\len<=cap/\cap<=maxLen/\zs.length=cap/\(∀i,i<zs.length->w.cell? (x.add i)=some (.int k (zs.getD i 0)))/\∀n∈zs,(Lit.int k n).wf=true
theorem L8{n:Int}(h:(Lit.int .u8 n).wf=true):0<=n/\n<=255:=by
 have:=bounds_u8 h;omega
theorem D3.bytes{w:World}{a:Option Addr}{len cap:Nat}{zs:List Int}(h:D3 .u8 w a len cap zs):
  ∃l:List UInt8,l.length=len/\al w a (l.map am)/\len<=cap/\cap<=maxLen:=by
 rcases h with⟨rfl,rfl,rfl,rfl⟩|⟨x,rfl,hl,hm,hz,hcell,hwf⟩
 ·exact⟨[],rfl,fun hp=>by simp at hp,by omega,by unfold maxLen;omega⟩
 ·refine⟨(zs.take len).map fun z=>UInt8.ofNat z.toNat,by simp;omega,fun hp=>?_,hl,hm⟩;have hlen:0<len:=by simp at hp;omega
  obtain⟨b,off,spot⟩:=x;have h0:=hcell 0 (by omega);have hspot:spot=none:=by simpa[Addr.add]using World.cell?_spot h0
  subst hspot;refine⟨b,off,rfl,fun j hj=>?_⟩;have hj':j<zs.length:=by simp at hj;omega
  have hc:=hcell j hj';rw[Addr.add_lit]at hc;rw[hc];have hb:=L8 (hwf _ (getElem_mem hj'));simp only[getElem_map,getElem_take,am,Option.some.injEq,Value.int.injEq,true_and];rw[getD_eq_getElem?_getD,getElem?_eq_getElem hj']
  have e:(UInt8.ofNat zs[j].toNat).toNat=zs[j].toNat:=by
   rw[UInt8.toNat_ofNat'];omega
  rw[e];simp;omega
theorem Bq(s:ByteArray):str s.data.toList=.string s:=by
 unfold str;congr 1
theorem mQ{H:Type}{P:Program}{e:TypeId}{k:Nat}:∀{ds:List (DataW H)} {d:DataW H},d∈ds->k∈d.weights P e->k∈DataW.weightsAll P e ds
 | [],_,h,_=>by simp at h
 | x::r,d,h,hk=>by
  simp only[DataW.weightsAll,mem_append]
  rcases mem_cons.1 h with rfl|h
  ·exact .inl hk
  ·exact .inr (mQ h hk)
theorem Es{α:Type}(Q:Nat->α->Prop):∀n:Nat,(∀i,i<n->∃o,Q i o)->∃l:List α,l.length=n/\∀(i:Nat) (o:α),l[i]?=some o->Q i o
 | 0,_=>⟨[],rfl,fun i o h=>by simp at h⟩
 | n+1,h=>by
  obtain⟨l,h1,h2⟩:=Es Q n (fun i hi=>h i (by omega))
  obtain⟨o,ho⟩:=h n (by omega)
  refine⟨l++[o],by simp[h1],fun i o' hi=>?_⟩
  by_cases hlt:i<n
  ·rw[getElem?_append_left (by omega)]at hi
   exact h2 i o' hi
  ·have hb:=(List.getElem?_eq_some_iff.1 hi).1
   simp only[length_append,length_cons,length_nil]at hb
   obtain rfl:i=n:=by omega
   rw[<- h1,getElem?_append_right (Nat.le_refl _),Nat.sub_self]at hi
   simp only[getElem?_cons_zero,Option.some.injEq]at hi
   subst hi
   exact ho
theorem iX{α:Type}{n:Nat}:∀{l:List α},l.length=n+1->∃a r,l=a::r/\r.length=n
 | [],h=>by simp at h
 | a::r,h=>⟨a,r,rfl,by simpa using h⟩
theorem ug{α:Type}(l:List α)(h:l.length=7):∃a b c d e f g,l=[a,b,c,d,e,f,g]:=by
 obtain⟨a,r1,rfl,h1⟩:=iX h;obtain⟨b,r2,rfl,h2⟩:=iX h1;obtain⟨c,r3,rfl,h3⟩:=iX h2;obtain⟨d,r4,rfl,h4⟩:=iX h3;obtain⟨e,r5,rfl,h5⟩:=iX h4;obtain⟨f,r6,rfl,h6⟩:=iX h5;obtain⟨g,r7,rfl,h7⟩:=iX h6;exact⟨a,b,c,d,e,f,g,by rw[length_eq_zero_iff.1 h7]⟩
theorem CA{H:Type}{enc:TypeId×Value->H}{W:World}{n:Nat}{cs:List Value}{x:DataW H×List MemPlace}(h:DataW.trod enc Tryz.prog W 0 (fun _=>true) true n 38 cs=some x)(hz:∀k∈x.1.weights Tryz.prog 38,k<=reachBytes):
  ∃(l:Bs) (sl:Option Addr) (cap:Nat),cs=[.slice sl l.length cap]/\al W sl (l.map am)/\l.length<=cap/\cap<=9223372036854775807/\l.length<=1125899906842624:=by
 rcases open_ints Tryz.underlying38 Tryz.underlying5 (by kernel_rfl) h with⟨rfl,rfl⟩|⟨a,len,cap,zs,rfl,_,hl,hm,hzl,rfl,hcell,hwz⟩
 ·exact⟨[],none,0,rfl,fun hp=>by simp at hp,by simp,by omega,by simp⟩
 ·have hzl':zs.length=cap:=by simpa using hzl
  obtain⟨l,h1,h2,h3,_⟩:=D3.bytes (.inr ⟨_,rfl,hl,hm,hzl',hcell,hwz⟩:D3 .u8 W (some a) len cap zs);subst h1;refine⟨l,some a,cap,rfl,h2,h3,by unfold maxLen at hm;omega,?_⟩;have h4:=hz (((lits (H:=H) .u8 (zs.take l.length)).length+(lits (H:=H) .u8 (zs.drop l.length)).length)*Tryz.prog.bytesOf 5) (by simp only[DataW.weights,Tryz.underlying38];exact mem_cons_self);rw[show Tryz.prog.bytesOf 5=1 from by kernel_rfl,Nat.mul_one]at h4;simp only[lits,length_map,length_take,length_drop]at h4;have:=reachBytes_lt;omega
theorem gS{H:Type}{enc:TypeId×Value->H}{W:World}{m:Nat}{cs:List Value}{fs:Array Field}{xs:List (DataW H×List MemPlace)}{P:Program}(hf:∀(i:Nat) (f:Field),fs[i]?=some f->DataW.trod enc P W 0 (fun _=>true) true m f.type ((cs.drop f.offset).take (P.cellsOf f.type))=xs[i]?){i:Nat}{f:Field}(hi:fs[i]?=some f){t:TypeId}{off n:Nat}(ht:f.type=t)(ho:f.offset=off)(hc:P.cellsOf t=n):DataW.trod enc P W 0 (fun _=>true) true m t ((cs.drop off).take n)=xs[i]?:=by
 subst ht ho hc;exact hf i f hi
theorem Kd{H:Type}{enc:TypeId×Value->H}{W:World}{n:Nat}{cs:List Value}{x:DataW H×List MemPlace}(h:DataW.trod enc Tryz.prog W 0 (fun _=>true) true n 65 cs=some x)(hz:∀k∈x.1.weights Tryz.prog 65,k<=reachBytes):
  ∃o:OpL,cs=opV o/\OpOk W o:=by
 obtain⟨xs,m,rfl,rfl,hl,hlen,hf⟩:=DataW.trod_struct Tryz.underlying65 h;rw[show Tryz.prog.cellsOf 65=7 from by kernel_rfl]at hl;have ci:Tryz.prog.cellsOf 3=1:=by kernel_rfl
 have ct:Tryz.prog.cellsOf 9=1:=by kernel_rfl
 have cb:Tryz.prog.cellsOf 38=1:=by kernel_rfl
 obtain⟨y0,y1,y2,y3,y4,y5,y6,rfl⟩:=ug xs hlen;obtain⟨c0,c1,c2,c3,c4,c5,c6,rfl⟩:=ug cs hl
 have hzz:∀(j:Nat) (t:TypeId) (d:DataW H),[3,3,3,3,9,9,38][j]?=some t->[y0.1,y1.1,y2.1,y3.1,y4.1,y5.1,y6.1][j]?=some d->∀k∈d.weights Tryz.prog t,k<=reachBytes:=fun j t d ht hd k hk=>hz k (by
  simp only[DataW.weights,Tryz.underlying65];exact DataW.weights_mem_each (j:=j) (t:=t) (d:=d) ht hd k hk)
 clear hz h;have f0:DataW.trod enc Tryz.prog W 0 (fun _=>true) true m 3 [c0]=some y0:=gS hf (i:=0) (f:={ name := "Kind",type:=3,offset:=0,embedded:=false,tag := "",pkgPath := "",byteOffset:=0 }) rfl rfl rfl ci;have f1:DataW.trod enc Tryz.prog W 0 (fun _=>true) true m 3 [c1]=some y1:=gS hf (i:=1) (f:={ name := "A",type:=3,offset:=1,embedded:=false,tag := "",pkgPath := "",byteOffset:=8 }) rfl rfl rfl ci;have f2:DataW.trod enc Tryz.prog W 0 (fun _=>true) true m 3 [c2]=some y2:=gS hf (i:=2) (f:={ name := "B",type:=3,offset:=2,embedded:=false,tag := "",pkgPath := "",byteOffset:=16 }) rfl rfl rfl ci;have f3:DataW.trod enc Tryz.prog W 0 (fun _=>true) true m 3 [c3]=some y3:=gS hf (i:=3) (f:={ name := "C",type:=3,offset:=3,embedded:=false,tag := "",pkgPath := "",byteOffset:=24 }) rfl rfl rfl ci;have f4:DataW.trod enc Tryz.prog W 0 (fun _=>true) true m 9 [c4]=some y4:=gS hf (i:=4) (f:={ name := "S",type:=9,offset:=4,embedded:=false,tag := "",pkgPath := "",byteOffset:=32 }) rfl rfl rfl ct;have f5:DataW.trod enc Tryz.prog W 0 (fun _=>true) true m 9 [c5]=some y5:=gS hf (i:=5) (f:={ name := "T",type:=9,offset:=5,embedded:=false,tag := "",pkgPath := "",byteOffset:=48 }) rfl rfl rfl ct;have f6:DataW.trod enc Tryz.prog W 0 (fun _=>true) true m 38 [c6]=some y6:=gS hf (i:=6) (f:={ name := "D",type:=38,offset:=6,embedded:=false,tag := "",pkgPath := "",byteOffset:=64 }) rfl rfl rfl cb;obtain⟨n0,e0,-,w0⟩:=DataW.trod_int Tryz.underlying3 f0;obtain⟨n1,e1,-,w1⟩:=DataW.trod_int Tryz.underlying3 f1;obtain⟨n2,e2,-,w2⟩:=DataW.trod_int Tryz.underlying3 f2;obtain⟨n3,e3,-,w3⟩:=DataW.trod_int Tryz.underlying3 f3;obtain⟨s4,e4,rfl,w4⟩:=DataW.trod_string Tryz.underlying9 f4;obtain⟨s5,e5,rfl,w5⟩:=DataW.trod_string Tryz.underlying9 f5;obtain⟨l,sl,cap,e6,h1,h2,h3,h4⟩:=CA f6 (hzz 6 _ _ rfl rfl);simp only[List.cons.injEq,and_true]at e0 e1 e2 e3 e4 e5 e6;subst e0 e1 e2 e3 e4 e5 e6;have hr:=reachBytes_lt;have z4:=hzz 4 _ _ rfl rfl s4.data.toList.length (by simp only[DataW.weights];exact mem_singleton.2 rfl);have z5:=hzz 5 _ _ rfl rfl s5.data.toList.length (by simp only[DataW.weights];exact mem_singleton.2 rfl);refine⟨⟨n0,n1,n2,n3,s4.data.toList,s5.data.toList,.slice sl l.length cap,l⟩,by unfold opV;rw[Bq,Bq],⟨Go.bounds_i64 w1,Go.bounds_i64 w2,Go.bounds_i64 w3,Nat.le_trans z4 (by omega),Nat.le_trans z5 (by omega),h4,⟨sl,cap,rfl,h2,h3,h1⟩⟩⟩
theorem Lt{H:Type}{enc:TypeId×Value->H}{W:World}{a:Option Addr}{len cap:Nat}{d:DataW H}{p:List MemPlace}(h:DataW.Trod enc Tryz.prog W 0 (fun _=>true) true 22 (.slice a len cap) d p)(hz:∀k∈d.weights Tryz.prog 22,k<=reachBytes):
  ∃l:List OpL,l.length=len/\al W a (uo l)/\(∀o∈l,OpOk W o)/\l.length<=1125899906842624:=by
 obtain⟨fuel,hf⟩:=h;rcases DataW.trod_slice Tryz.underlying22 hf with⟨hcs,_⟩|⟨x,len',cap',elems,rest,n,_,hcs,hx,hb,hl,hm,hlen,hel,_,_⟩
 ·simp[Value.cells]at hcs;obtain⟨rfl,rfl,rfl⟩:=hcs;exact⟨[],rfl,fun hp=>by simp[uo]at hp,fun o ho=>by simp at ho,by simp⟩
 ·simp[Value.cells]at hcs;obtain⟨rfl,rfl,rfl⟩:=hcs;simp only[Prod.mk.injEq]at hx;obtain⟨rfl,-⟩:=hx;have c7:Tryz.prog.cellsOf 65=7:=by kernel_rfl
  rw[c7]at hel
  have each:∀i,i<elems.length->∃o:OpL,W.cells? 0 (x.add (i*7)) 7=some (opV o)/\OpOk W o:=by
   intro i hi;have h1:=hel i (by omega);rw[getElem?_eq_getElem hi,Option.bind_eq_some_iff]at h1;obtain⟨cs,hcs,hy⟩:=h1
   obtain⟨o,rfl,ho⟩:=Kd hy (fun k hk=>hz k (by
    simp only[DataW.weights,Tryz.underlying22];exact mem_cons_of_mem _ (mem_append_left _ (mQ (mem_map_of_mem (getElem_mem hi)) hk))))
   exact⟨o,hcs,ho⟩
  obtain⟨l,hll,hl2⟩:=Es _ _ each;have h80:=hz (((elems.map (·.1)).length+(rest.map (·.1)).length)*Tryz.prog.bytesOf 65) (by simp only[DataW.weights,Tryz.underlying22];exact mem_cons_self);rw[show Tryz.prog.bytesOf 65=88 from by kernel_rfl]at h80;simp only[length_map]at h80;have hr:=reachBytes_lt;refine⟨l,by omega,fun hp=>?_,fun o ho=>?_,by omega⟩
  ·rw[jo]at hp;obtain⟨b,off,spot⟩:=x;have h0:=(hl2 0 _ (getElem?_eq_getElem (by omega:0<l.length))).1;have hc0:=(World.cells?_some h0).2.2 0 (by omega);have hspot:spot=none:=by simpa[Addr.add]using World.cell?_spot (hc0.trans rfl)
   subst hspot;refine⟨b,off,rfl,fun j hj=>?_⟩;have hj2:=hj;rw[jo]at hj2;have hi:j / 7<l.length:=by omega
   have h1:=(hl2 (j / 7) _ (getElem?_eq_getElem hi)).1;have h2:=(World.cells?_some h1).2.2 (j%7) (by omega);rw[Addr.add_lit,Addr.add_lit,show off+j / 7*7+j%7=off+j by omega,<- yo l (j / 7) hi (j%7) (by omega),show j / 7*7+j%7=j by omega,getElem?_eq_getElem hj]at h2;exact h2
  ·obtain⟨i,hi⟩:=getElem?_of_mem ho;exact(hl2 i o hi).2
end
end Go.Proofs.YtdhobpbngkainaaGreatDoor
namespace Go.Proofs.YtdhobpbngkainaaGreatDoor.flipsDone
open List
open Go.ChangeShapes Go Go.WideShapes Go.ChangeAt Go.RowKit
theorem laidOut:laidOutB Tryz.prog=true:=by kernel_rfl
theorem contract(H:Type)(enc:TypeId×Value->H)(W:World)(base:Nat)(args:Array Value)(ds gs:List (DataW H))(before:List MemPlace)(hval:∀(j:Nat) t v,Tryz.f8.params[j]?=some t->args[j]?=some v->Value.okWide Tryz.prog W .any base t v)(hW:DataW.Whole enc Tryz.prog Tryz.f8.params.toList Rows.flipsSpec.vars false W args.toList ds gs before)(hsz:(DataW.weightsEach Tryz.prog (Tryz.f8.params.toList++(OpenSpec.ofChange Rows.flipsSpec).bare.plain.varTypes Tryz.prog) (ds++gs)).all (·<=reachBytes)=true)(hL:laidMetH Tryz.prog Rows.flipsRow.laid W):
  Calls Tryz.prog 8 args W fun e W'=>∃v,e=.returned v/\Rows.flipsSpec.post enc Tryz.prog Tryz.f8 false true false false W args v W':=by
 have hW':=hW;obtain⟨p,q,hA0,hV,rfl,hfz,hnd⟩:=hW;have hA:DataW.TrodAll enc Tryz.prog W 0 (fun _=>true) true Tryz.f8.params.toList args.toList ds p:=hA0;rw[Tryz.params8]at hA hval;obtain⟨v0,vs0,d0,ds0,p0,q0,hargs,rfl,rfl,h0,r0⟩:=trodAll_cons hA;obtain⟨v1,vs1,d1,ds1,p1,q1,rfl,rfl,rfl,h1,r1⟩:=trodAll_cons r0;obtain⟨v2,vs2,d2,ds2,p2,q2,rfl,rfl,rfl,h2,r2⟩:=trodAll_cons r1;obtain⟨v3,vs3,d3,ds3,p3,q3,rfl,rfl,rfl,h3,r3⟩:=trodAll_cons r2;obtain⟨rfl,rfl,rfl⟩:=trodAll_nil r3;obtain rfl:args=#[v0,v1,v2,v3]:=by cases args;simp_all
 obtain⟨rfl,rfl⟩:=trodVars_none hV;obtain⟨a0,len0,cap0,rfl⟩:=okWide_slice Tryz.underlying22 (hval 0 22 v0 rfl rfl);have k0:=h0;have k1:=h1;have k2:=h2;have k3:=h3;have lt0:∀x∈p0,x.block<W.heap.size:=by obtain⟨m,hm⟩:=k0;exact DataW.trod_lt m _ _ _ hm
 have lt1:∀x∈p1,x.block<W.heap.size:=by obtain⟨m,hm⟩:=k1;exact DataW.trod_lt m _ _ _ hm
 have lt2:∀x∈p2,x.block<W.heap.size:=by obtain⟨m,hm⟩:=k2;exact DataW.trod_lt m _ _ _ hm
 have lt3:∀x∈p3,x.block<W.heap.size:=by obtain⟨m,hm⟩:=k3;exact DataW.trod_lt m _ _ _ hm
 obtain⟨n1,rfl,rfl,rfl,hw1⟩:=open_int Tryz.underlying3 (hval 1 3 v1 rfl rfl) h1;obtain⟨n2,rfl,rfl,rfl,hw2⟩:=open_int Tryz.underlying37 (hval 2 37 v2 rfl rfl) h2;obtain⟨low,rfl,rfl,rfl⟩:=open_bool Tryz.underlying4 (hval 3 4 v3 rfl rfl) h3;obtain⟨B,rfl⟩:∃B:Nat,n2=B:=⟨n2.toNat,by have:=bounds_u64 hw2;omega⟩;obtain⟨l,rfl,hl,hok,hcap⟩:=Lt h0 (fun k hk=>of_decide_eq_true (all_eq_true.1 hsz k (DataW.weights_mem_each (j:=0) (t:=22) rfl rfl k hk)));clear hA0;refine(yZ l a0 cap0 n1 B low W hl hok hcap (CO hL) (by have:=bounds_u64 hw2;omega)).mono fun e W' ⟨he,hs⟩=>?_
 subst he;have bel:=hs.below;exact⟨_,rfl,_,_,_,[],_,[],hW',trodAll_mk1 (shut_bool Tryz.underlying4 _),(trodAll_cons_mk (Below.trod laidOut (by kernel_rfl) (of_decide_eq_true (by kernel_rfl)) k0 bel lt0) (trodAll_cons_mk (Below.trod laidOut (by kernel_rfl) (of_decide_eq_true (by kernel_rfl)) k1 bel lt1) (trodAll_cons_mk (Below.trod laidOut (by kernel_rfl) (of_decide_eq_true (by kernel_rfl)) k2 bel lt2) (trodAll_cons_mk (Below.trod laidOut (by kernel_rfl) (of_decide_eq_true (by kernel_rfl)) k3 bel lt3) trodAll_mk0)))),rfl,bel.frame _,fun h=>by cases h⟩
theorem reads(os:Os){H:Type}(enc:TypeId×Value->H):∃places,DataW.whole enc Tryz.prog ((qJ os).forCall (fun _ _=>0) ⟨#[],#[.slice none 0 0,.int .i64 0,.int .u64 0,.bool false],[]⟩).memory Tryz.f8.params.toList Rows.flipsSpec.vars false #[Value.slice none 0 0,Value.int .i64 0,Value.int .u64 0,Value.bool false].toList 8=some ([.nil,.lit (.int .i64 0),.lit (.int .u64 0),.lit (.bool false)],[],places) :=
 ⟨[],by kernel_rfl⟩
theorem lifted(os:Os)(started:os.Started)(H:Type)(enc:TypeId×Value->H)(F:Stop.Interp):
  ReturnsInHanded {} Tryz.checked os 8 .any ((OpenSpec.ofChange Rows.flipsSpec).preRow enc Tryz.prog Tryz.f8 Rows.flipsRow.domain false Rows.flipsRow.laid) (((OpenSpec.ofChange Rows.flipsSpec).at F).post enc Tryz.prog Tryz.f8 false true false false):=by
 obtain⟨places,hx⟩:=reads os enc
 refine returnsInHanded_of_row (C:=Tryz.checked) (s:=OpenSpec.ofChange Rows.flipsSpec) Lo started (by kernel_rfl) Tryz.func8
  (witness_row_at (enc:=enc) (C:=Tryz.checked) false (qJ os) #[.slice none 0 0,.int .i64 0,.int .u64 0,.bool false] rfl (by kernel_rfl) (by kernel_rfl) (by kernel_rfl)
   (OpenSpec.preRow_of_cond 8 hx (by kernel_rfl) (fun k hk=>by cases hk) (by kernel_rfl) (vw os _))) ?_
 intro W base args ds gs before hval hW _ _ hsz hL _ _;exact contract H enc W base args ds gs before hval hW hsz hL
theorem said:Rows.FlipsSaid :=
 OpenClaim.holds_of_cond 8 Tryz.f8 rfl rfl rfl rfl rfl rfl rfl ⟨rfl,rfl,rfl,rfl,rfl⟩ rfl rfl rfl rfl rfl (by kernel_rfl) Tryz.func8 (by kernel_rfl)
  (of_decide_eq_true (by kernel_rfl)) (by unfold Func.isWrapper;first|(rw[if_pos (by decide +kernel)];kernel_rfl)|(rw[if_neg (by decide +kernel)];exact⟨rfl,rfl⟩))
  (fun os started H enc _ F=>by rw[OpenClaim.pre_eq_preRow];exact lifted os started H enc F)
theorem plain(f:FuncId)(fn:Func)(hf:Tryz.pinned.checked.prog.funcNamed "versions/versionslaw.Flips" = some f)(hfn:Tryz.pinned.checked.prog.funcs[f]?=some fn):
  true=Tryz.pinned.checked.prog.looks []/\∀(j:Nat) t,fn.params[j]?=some t->Tryz.pinned.checked.prog.wantsStandIn t=false:=by
 obtain rfl:f=8:=Option.some.inj ((show Tryz.prog.funcNamed "versions/versionslaw.Flips" = some 8 by kernel_rfl).symm.trans hf) |>.symm
 obtain rfl:fn=Tryz.f8:=(Option.some.inj (Tryz.func8.symm.trans hfn)).symm;refine⟨by kernel_rfl,fun j t ht=>?_⟩;rw[Tryz.params8]at ht;have hm:=Array.mem_of_getElem? ht;rcases(by simpa using hm:t=22\/t=3\/t=37\/t=4)with rfl|rfl|rfl|rfl
 ·exact(show Tryz.prog.wantsStandIn 22=false by kernel_rfl)
 ·exact(show Tryz.prog.wantsStandIn 3=false by kernel_rfl)
 ·exact(show Tryz.prog.wantsStandIn 37=false by kernel_rfl)
 ·exact(show Tryz.prog.wantsStandIn 4=false by kernel_rfl)
theorem proved:Rows.FlipsCardSaid :=
 Claim7.holds_tied_plain_at .later [] _ _ _ _ said (fun _ h=>by cases h) (by kernel_rfl) (fun _ h=>by cases h) flips_row_tie rfl ⟨rfl,rfl⟩ (by kernel_rfl) rfl plain (by kernel_rfl)
end Go.Proofs.YtdhobpbngkainaaGreatDoor.flipsDone
