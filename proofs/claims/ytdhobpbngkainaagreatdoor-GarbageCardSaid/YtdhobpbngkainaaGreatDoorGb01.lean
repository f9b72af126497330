/- Ours. A part of the proof, made small by a program. -/
import Derived.WalkKit
import Derived.RangeFuncRecord
import Derived.WalkSpells
import Derived.Lib.Hide
import Derived.WalkLawsBesides
import Derived.Test.YtdhobpbngkainaaGreatDoorProg
import Derived.LaidEql
import Derived.Stop.Asserts
import Derived.RowKitTokens
import Derived.Test.YtdhobpbngkainaaGreatDoorCards
import Derived.Test.YtdhobpbngkainaaGreatDoorTie
import Derived.ProofKit
import Derived.OpenShut
import Derived.Deep.DeepHandedRow
import Derived.Lib.LaidTab
import Derived.LaidHandle
import Derived.Stop.Joined
import Derived.OwnWalkIn
import Derived.Maps.AppendAt
import Derived.Laws.CopyOwn
import Derived.RegionTactic
import Derived.Deep.RegionHeld3
import Derived.Deep.MidRow
import Derived.Laws.Rows
import Derived.StillTailTactics
import Derived.Deep.RegionLaw
import Derived.RangeFuncBox
import Derived.Great.BuildSlice
import Derived.Conc.SmallLaws
import Derived.DeepKeys
import Derived.ChangeKeys
import Derived.BigQuiet
import Derived.Deep.QuietTactic
import Derived.Deep.RegionWith
import Derived.Orders
import Derived.OrdersIn
import Derived.RangeFuncIn
import Derived.TacticsIn
import Derived.Laws.RangeAny
import Derived.Laws.Closers25b
import Derived.Maps.Keyed
import Derived.Carry
import Derived.Conc.LoneSelect
import Derived.Deep.CutBlock
import Derived.Lib.SliceRun
import Derived.Defers
import Derived.Lib.MinMax
import Derived.Deep.Cut
import Derived.Maps.OwnOps
import Derived.LaidEqlPtr
import Derived.DeepKeys4
import Derived.Laws.BytesArg
import Derived.Maps.RangeRun
import Derived.RangeFuncNested
import Derived.RangeFuncBound
import Derived.RangeFuncCalls
import Derived.RangeFuncLeaves
import Derived.Shelf.Abstract
import Derived.TacticsInMore
import Derived.LoopNIn
import Derived.LoopIn
import Derived.Lib.ConvBytes
import Derived.Shelf.SlSortCmp.WholeK
import Derived.Lib.Bytealg
import Derived.Lib.Strings
import Derived.Laws.Externs
import Derived.Laws.Strings3
import Derived.Shelf.SlSortCmp.NoneTotal
import Derived.Shelf.SlIter.Nil
import Derived.Shelf.SortM.Plain
import Derived.Shelf.SortM.SortNone
import Derived.Lib.SlBytesConst
import Derived.ShutString
import Derived.ChangeOld
import Derived.SliceStrings
import Derived.SizedLaws
set_option maxRecDepth 100000
set_option maxHeartbeats 16000000
namespace Go.Proofs.YtdhobpbngkainaaGreatDoor
open List Go.Proofs.Tryz
theorem QA{α:Type}(a:List α)(i:Nat)(v:α):a.toArray.setIfInBounds i v=(a.set i v).toArray:=List.setIfInBounds_toArray ..
theorem QB{α:Type}(a b:α)(l:List α):(a::l).set 0 b=b::l:=rfl
theorem QC{α:Type}(a b:α)(l:List α)(n:Nat):(a::l).set (n+1) b=a::l.set n b:=rfl
theorem QD{α:Type}(a:α)(l:List α)(n:Nat):(a::l).drop (n+1)=l.drop n:=rfl
theorem QE{α:Type}(a:α)(l:List α)(n:Nat):(a::l).take (n+1)=a::l.take n:=rfl
theorem QF{α:Type}(a d:α)(l:List α):(a::l).getD 0 d=a:=rfl
theorem QG{α:Type}(a d:α)(l:List α)(n:Nat):(a::l).getD (n+1) d=l.getD n d:=rfl
theorem QH{α:Type}{n:Nat}{l:List α}(h:n<l.length):l.take (n+1)=l.take n++[l[n]]:=List.take_succ_eq_append_getElem h
section
open Go.RowKit
theorem _root_.Go.RowKit.Hid.o{p:Prop}(h:RowKit.Hid p):p:=h.out
theorem _root_.Go.RowKit.Hid.q{p0 p1 p2 p3 p4 p5 p6 p7 p8:Prop}(h:RowKit.Hid (p0∧p1∧p2∧p3∧p4∧p5∧p6∧p7∧p8)):RowKit.Hid p8:=h.out.2.2.2.2.2.2.2.2
theorem Na{α:Sort _}(a:α):∃x,x=a:=⟨a,rfl⟩
theorem Nb{p:Prop}(h:p:=by omega):p:=h
theorem Nc{p:Prop}(h:p:=by kernel_rfl):p:=h
theorem Nh{p:Prop}(h:p:=by simp):p:=h
theorem Nj{p:Prop}(h:p:=by simp;omega):p:=h
theorem Nk{p:Prop}(h:p:=by decide):p:=h
theorem Nl{p:Prop}(h:p:=by assumption):p:=h
theorem NK{p q:Prop}(a:p)(b:q):p∧q:=⟨a,b⟩
theorem NM{α}{a b:List α}:(a++b).length=a.length+b.length:=List.length_append
theorem NP{α β}{a:List α}(f:α→β):(a.map f).length=a.length:=List.length_map f
theorem NQ{c:Prop}{h:Decidable c}(n:¬c){α:Sort _}{t e:α}:(ite c t e)=e:=_root_.if_neg n
theorem NR{c:Prop}{h:Decidable c}(n:c){α:Sort _}{t e:α}:(ite c t e)=t:=_root_.if_pos n
theorem NS{α}{i:Nat}{l:List α}:(l.take i).length=min i l.length:=List.length_take
theorem NT{α}{i:Nat}{l:List α}:(l.drop i).length=l.length-i:=List.length_drop
theorem NU{α}{a b:α}:a∈[b]↔a=b:=List.mem_singleton
theorem NV{α}(a b c:List α):a++b++c=a++(b++c):=List.append_assoc a b c
theorem NW{α β}{f:α→β}{a b:List α}:(a++b).map f=a.map f++b.map f:=List.map_append
theorem NY{α}(a b:α):(some a=some b)=(a=b):=Option.some.injEq a b
theorem NZ{p:Prop}(h:p):RowKit.Hid p:=h
theorem HM:RowKit.Hid (prog.follows .mixedOrders=true):=NZ Nc
theorem Ob{p0 p1:Prop}(h0:p0)(h1:p1):RowKit.Hid (p0∧p1):=⟨h0,h1⟩
theorem Oz{p0 p1 p2:Prop}(h0:p0)(h1:p1)(h2:p2):RowKit.Hid (p0∧p1∧p2):=⟨h0,h1,h2⟩
theorem OW{p0 p1 p2 p3:Prop}(h0:p0)(h1:p1)(h2:p2)(h3:p3):RowKit.Hid (p0∧p1∧p2∧p3):=⟨h0,h1,h2,h3⟩
theorem PD{p0 p1 p2 p3 p4:Prop}(h0:p0)(h1:p1)(h2:p2)(h3:p3)(h4:p4):RowKit.Hid (p0∧p1∧p2∧p3∧p4):=⟨h0,h1,h2,h3,h4⟩
theorem RV{p0 p1 p2 p3 p4 p5:Prop}(h0:p0)(h1:p1)(h2:p2)(h3:p3)(h4:p4)(h5:p5):RowKit.Hid (p0∧p1∧p2∧p3∧p4∧p5):=⟨h0,h1,h2,h3,h4,h5⟩
theorem Ry{p0 p1 p2 p3 p4 p5 p6:Prop}(h0:p0)(h1:p1)(h2:p2)(h3:p3)(h4:p4)(h5:p5)(h6:p6):RowKit.Hid (p0∧p1∧p2∧p3∧p4∧p5∧p6):=⟨h0,h1,h2,h3,h4,h5,h6⟩
theorem Uh{p0 p1 p2 p3 p4 p5 p6 p7:Prop}(h0:p0)(h1:p1)(h2:p2)(h3:p3)(h4:p4)(h5:p5)(h6:p6)(h7:p7):RowKit.Hid (p0∧p1∧p2∧p3∧p4∧p5∧p6∧p7):=⟨h0,h1,h2,h3,h4,h5,h6,h7⟩
theorem WQ{p0 p1 p2 p3 p4 p5 p6 p7 p8:Prop}(h0:p0)(h1:p1)(h2:p2)(h3:p3)(h4:p4)(h5:p5)(h6:p6)(h7:p7)(h8:p8):RowKit.Hid (p0∧p1∧p2∧p3∧p4∧p5∧p6∧p7∧p8):=⟨h0,h1,h2,h3,h4,h5,h6,h7,h8⟩
theorem _root_.Go.RowKit.Hid.a{p0 p1:Prop}(h:RowKit.Hid (p0∧p1)):p0:=h.out.1
theorem _root_.Go.RowKit.Hid.b{p0 p1 p2:Prop}(h:RowKit.Hid (p0∧p1∧p2)):p1:=h.out.2.1
theorem _root_.Go.RowKit.Hid.c{p0 p1 p2 p3:Prop}(h:RowKit.Hid (p0∧p1∧p2∧p3)):p2:=h.out.2.2.1
theorem _root_.Go.RowKit.Hid.d{p0 p1 p2 p3 p4:Prop}(h:RowKit.Hid (p0∧p1∧p2∧p3∧p4)):p3:=h.out.2.2.2.1
theorem _root_.Go.RowKit.Hid.e{p0 p1 p2 p3 p4 p5:Prop}(h:RowKit.Hid (p0∧p1∧p2∧p3∧p4∧p5)):p4:=h.out.2.2.2.2.1
theorem _root_.Go.RowKit.Hid.f{p0 p1 p2 p3 p4 p5 p6:Prop}(h:RowKit.Hid (p0∧p1∧p2∧p3∧p4∧p5∧p6)):p5:=h.out.2.2.2.2.2.1
theorem _root_.Go.RowKit.Hid.g{p0 p1 p2 p3 p4 p5 p6 p7:Prop}(h:RowKit.Hid (p0∧p1∧p2∧p3∧p4∧p5∧p6∧p7)):p6:=h.out.2.2.2.2.2.2.1
theorem _root_.Go.RowKit.Hid.h{p0 p1 p2 p3 p4 p5 p6 p7 p8:Prop}(h:RowKit.Hid (p0∧p1∧p2∧p3∧p4∧p5∧p6∧p7∧p8)):p7:=h.out.2.2.2.2.2.2.2.1
theorem _root_.Go.RowKit.Hid.z{p0 p1:Prop}(h:RowKit.Hid (p0∧p1)):p1:=h.out.2
theorem _root_.Go.RowKit.Hid.y{p0 p1 p2:Prop}(h:RowKit.Hid (p0∧p1∧p2)):p2:=h.out.2.2
theorem _root_.Go.RowKit.Hid.x{p0 p1 p2 p3:Prop}(h:RowKit.Hid (p0∧p1∧p2∧p3)):p3:=h.out.2.2.2
theorem _root_.Go.RowKit.Hid.w{p0 p1 p2 p3 p4:Prop}(h:RowKit.Hid (p0∧p1∧p2∧p3∧p4)):p4:=h.out.2.2.2.2
theorem _root_.Go.RowKit.Hid.v{p0 p1 p2 p3 p4 p5:Prop}(h:RowKit.Hid (p0∧p1∧p2∧p3∧p4∧p5)):p5:=h.out.2.2.2.2.2
theorem _root_.Go.RowKit.Hid.u{p0 p1 p2 p3 p4 p5 p6:Prop}(h:RowKit.Hid (p0∧p1∧p2∧p3∧p4∧p5∧p6)):p6:=h.out.2.2.2.2.2.2
theorem _root_.Go.RowKit.Hid.t{p0 p1 p2 p3 p4 p5 p6 p7:Prop}(h:RowKit.Hid (p0∧p1∧p2∧p3∧p4∧p5∧p6∧p7)):p7:=h.out.2.2.2.2.2.2.2
structure N7 (S:Nat->Prop) (w w':World):Prop where
 os:w'.os=w.os
 tape:w'.tape=w.tape
 output:w'.output=w.output
 size:w.heap.size<=w'.heap.size
 block:∀k,k<w.heap.size->¬S k->w'.heap[k]?=w.heap[k]?
abbrev aV(w w':World):Prop:=N7 (fun _=>False) w w'
theorem N7.refl(S:Nat->Prop)(w:World):N7 S w w:=⟨rfl,rfl,rfl,Nat.le_refl _,fun _ _ _=>rfl⟩
theorem N7.trans{S:Nat->Prop}{a b c:World}(h:N7 S a b)(k:N7 S b c):N7 S a c :=
 ⟨k.os.trans h.os,k.tape.trans h.tape,k.output.trans h.output,Nat.le_trans h.size k.size,
  fun i hi hs=>(k.block i (Nat.lt_of_lt_of_le hi h.size) hs).trans (h.block i hi hs)⟩
theorem N7.trans'{S T:Nat->Prop}{a b c:World}(h:N7 S a b)(k:N7 T b c)(hT:∀i,T i->S i\/a.heap.size<=i):N7 S a c :=
 ⟨k.os.trans h.os,k.tape.trans h.tape,k.output.trans h.output,Nat.le_trans h.size k.size,
  fun i hi hs=>(k.block i (Nat.lt_of_lt_of_le hi h.size) (fun ht=>by rcases hT i ht with h'|h'<;>first|exact absurd h' hs|omega)).trans (h.block i hi hs)⟩
theorem N7.mono{S T:Nat->Prop}{a b:World}(h:N7 S a b)(hT:∀i,S i->T i\/a.heap.size<=i):N7 T a b :=
 ⟨h.os,h.tape,h.output,h.size,fun i hi hs=>h.block i hi (fun ht=>by rcases hT i ht with h'|h'<;>first|exact absurd h' hs|omega)⟩
theorem N7.drew{S:Nat->Prop}{a w:World}(h:N7 S a w):N7 S a w.drew:=⟨h.os,h.tape,h.output,h.size,h.block⟩
theorem N7.drewN{S:Nat->Prop}{a w:World}(h:N7 S a w)(n:Nat):N7 S a (w.drewN n):=⟨h.os,h.tape,h.output,h.size,h.block⟩
theorem N7.alloc{S:Nat->Prop}{a w:World}(h:N7 S a w)(o:Obj):N7 S a (w.alloc o) :=
 ⟨h.os,h.tape,h.output,Nat.le_trans h.size Nh,fun k hk hs=>(Below.heap_alloc w o k (Nat.lt_of_lt_of_le hk h.size)).trans (h.block k hk hs)⟩
theorem N7.setCell{S:Nat->Prop}{a w:World}(h:N7 S a w){p:Addr}(hp:S p.block\/a.heap.size<=p.block)(u:Value):N7 S a (w.setCell p u) :=
 ⟨h.os,h.tape,h.output,by simpa[World.setCell]using h.size,
  fun k hk hs=>(Below.heap_setCell w p u k (fun e=>by subst e;rcases hp with h'|h'<;>first|exact absurd h' hs|omega)).trans (h.block k hk hs)⟩
theorem N7.set1{b i:Nat}{a w:World}(h:N7 (fun x=>x=b) a w)(v:Value):N7 (fun x=>x=b) a (w.setCell ⟨b,i,none⟩ v):=h.setCell (p:=⟨b,i,none⟩) (.inl rfl) v
theorem N7.Qk{S:Nat->Prop}{b i:Nat}{a w:World}(hb:a.heap.size<=b)(h:N7 S a w)(v:Value):N7 S a (w.setCell ⟨b,i,none⟩ v):=h.setCell (p:=⟨b,i,none⟩) (.inr hb) v
theorem N7.putObj{S:Nat->Prop}{a w:World}(h:N7 S a w){r:Nat}(hr:S r\/a.heap.size<=r)(o:Obj):N7 S a (w.putObj r o) :=
 ⟨h.os,h.tape,h.output,by simpa using h.size,
  fun k hk hs=>(World.putObj_heap_other (fun e=>by subst e;rcases hr with h'|h'<;>first|exact absurd h' hs|omega)).trans (h.block k hk hs)⟩
theorem N7.grown{S:Nat->Prop}{a w w':World}{row:Option Nat}(h:N7 S a w)(hg:w.grownBy w' row)(hr:∀k,row=some k->S k\/a.heap.size<=k):N7 S a w' :=
 ⟨hg.os.trans h.os,hg.tape.trans h.tape,hg.output.trans h.output,Nat.le_trans h.size hg.size,
  fun k hk hs=>(hg.block k (Nat.lt_of_lt_of_le hk h.size) (fun e=>by rcases hr k e.symm with h'|h'<;>first|exact absurd h' hs|omega)).trans (h.block k hk hs)⟩
theorem aV.below{w w':World}(h:aV w w'):Below w.heap.size w w':=⟨h.os,h.tape,h.output,h.size,fun k hk=>h.block k hk id⟩
theorem aV.of_below{w w':World}(h:Below w.heap.size w w'):aV w w':=⟨h.os,h.tape,h.output,h.size,fun k hk _=>h.block k hk⟩
theorem aV.mods{w w':World}(h:aV w w')(S:Nat->Prop):N7 S w w':=h.mono (fun _ hf=>hf.elim)
theorem N7.at{S:Nat->Prop}{w w':World}(h:N7 S w w'){b:Nat}{o:Obj}(hb:w.heap[b]?=some o)(hS:¬S b):w'.heap[b]?=some o :=
 (h.block b (Array.getElem?_eq_some_iff.1 hb).1 hS).trans hb
theorem ae{w:World}{b:Nat}{o:Obj}(h:w.heap[b]?=some o):b<w.heap.size:=(Array.getElem?_eq_some_iff.1 h).1
theorem aa{w:World}{b:Nat}{c:Array Value}{t:TypeId}{fz:Nat×Nat}(h:w.heap[b]?=some (.cells c t fz))(i:Nat){v:Value}(hv:c[i]?=some v):
  w.cell? ⟨b,i,none⟩=some v:=by simp[World.cell?,h,hv]
theorem aY{w:World}{b:Nat}{c:Array Value}{t:TypeId}(h:w.heap[b]?=some (.cells c t (0,0)))(i:Nat):w.frozen? ⟨b,i,none⟩=false:=by simp[World.frozen?,h]
theorem bq{w:World}{b:Nat}{c:Array Value}{t:TypeId}{fz:Nat×Nat}(h:w.heap[b]?=some (.cells c t fz))(i:Nat)(v:Value):
  (w.setCell ⟨b,i,none⟩ v).heap[b]?=some (.cells (c.setIfInBounds i v) t fz):=by
 simp only[World.setCell,Array.getElem?_modify,if_true,h,Option.map_some];rfl
theorem dZ{w:World}{o:Obj}{k:Nat}(h:k<w.heap.size):(w.alloc o).heap[k]?=w.heap[k]?:=Below.heap_alloc w o k h
theorem aM(w:World)(o:Obj):(w.alloc o).heap[w.heap.size]?=some o:=World.alloc_heap_new w o
def ak(w:World)(a:Option Addr)(xs:List Value):Prop:=0<xs.length->∃g off,a=some ⟨g,off,none⟩/\∀j (h:j<xs.length),w.cell? ⟨g,off+j,none⟩=some (xs[j]'h)
theorem ak.keep{S:Nat->Prop}{w w':World}{a:Option Addr}{xs:List Value}(h:ak w a xs)(hm:N7 S w w')(hS:∀g off,a=some ⟨g,off,none⟩->¬S g):ak w' a xs:=fun hp=>by
 obtain⟨g,off,ha,hc⟩:=h hp
 refine⟨g,off,ha,fun j hj=>?_⟩
 have hlt:=World.block_lt_of_cell? w _ (hc j hj)
 exact(World.cell?_of_block (w:=w) (hm.block g hlt (hS g off ha))).trans (hc j hj)
theorem ak.of_heap{w W:World}(e:W.heap=w.heap){a:Option Addr}{xs:List Value}(h:ak w a xs):ak W a xs:=fun hp=>by
 obtain⟨g,off,ha,hc⟩:=h hp
 exact⟨g,off,ha,fun j hj=>by rw[<- hc j hj];simp[World.cell?,e]⟩
def am(x:UInt8):Value:=.int .u8 (x.toNat:Nat)
def dw(x:Int):Value:=.int .i64 x
def gH(w w':World):Prop:=∃n,w'=w.drewN n
theorem gH.refl(w:World):gH w w:=⟨0,rfl⟩
theorem gH.same{w w':World}:gH w w'->aV w w'|⟨n,h⟩=>h ▸ (N7.refl _ w).drewN n
theorem gH.trans{a b c:World}:gH a b->gH b c->gH a c|⟨n,h⟩,⟨m,k⟩=>⟨n+m,by subst h;subst k;simp[World.drewN,Nat.add_assoc]⟩
theorem gH.drew{a b:World}:gH a b->gH a b.drew|⟨n,h⟩=>⟨n+1,by subst h;rfl⟩
theorem gH.drewN{a b:World}(h:gH a b)(m:Nat):gH a (b.drewN m):=h.trans ⟨m,rfl⟩
theorem EZ{k:IntKind}{a b:Int}(h:a=b):Ending.returned (.int k a)=.returned (.int k b):=by rw[h]
theorem lE{a b:Bool}(h:a=b):Ending.returned (.bool a)=.returned (.bool b):=by rw[h]
end
section
open Go.RowKit Go.Extern.Stop Go.Stop Go.Extern
theorem rS(t:Addr)(w:World):(ReflectliteValue.unpack (.iface 112 (.pointer (some t)))).run prog w
  = .ok (.agg #[.pointer (some ⟨2,112,none⟩),.pointer (some ⟨w.heap.size,0,none⟩),.int .u64 150]) (w.alloc (.cells #[.pointer (some t)] 112)):=Nc
theorem Ac(a:Addr)(w:World):(ReflectliteValue.methodAny (ReflectliteValue.valueError "reflectlite.Value.Type" 0) (fun t _ _ _=>ReflectliteType.toType t) #[.agg #[.pointer (some ⟨2,112,none⟩),.pointer (some a),.int .u64 150]]).run prog w
  = .ok (.iface 268 (.agg #[.pointer (some ⟨2,112,none⟩)])) w:=Nc
theorem Aa(w:World):((ReflectliteType.abiMethod fun t=>(fun a:Nat=>Value.int IntKind.u8 (a:Int)) <$> Rtype.kind t) #[.pointer (some ⟨2,112,none⟩)]).run prog w=.ok (.int .u8 22) w:=Nc
theorem z7(w:World):((ReflectliteType.abiMethod fun t=>(fun a:Nat=>Value.int IntKind.u8 (a:Int)) <$> Rtype.kind t) #[.pointer (some ⟨2,49,none⟩)]).run prog w=.ok (.int .u8 2) w:=Nc
theorem Iv(z:Sem Value)(f:TypeId->Addr->Nat->Nat->Sem Value)(v:Value):
  ReflectliteValue.method z f #[v]=(do match <- ReflectliteValue.parts v with|none=>z|some (t,a,fl)=>f t a fl (fl%32)):=rfl
theorem wJ(a:Addr)(w:World):(ReflectliteValue.parts (.agg #[.pointer (some ⟨2,112,none⟩),.pointer (some a),.int .u64 150])).run prog w=.ok (some (112,a,150)) w:=Nc
theorem wI(a p:Addr)(W:World)(ha:W.cell? a=some (.pointer (some p))):
  (ReflectliteValue.method (ReflectliteValue.valueError "reflectlite.Value.IsNil" 0) ReflectliteValue.isNil #[.agg #[.pointer (some ⟨2,112,none⟩),.pointer (some a),.int .u64 150]]).run prog W=.ok (.bool false) W:=by
 rw[Iv];simp only[Sem.run_bind,wJ,Result.andThen];simp[ReflectliteValue.isNil,loadVar,isAgg,underlying,underlying112,ha,Result.andThen]
theorem zU(w:World):(ReflectliteType.method ReflectliteType.elem #[.agg #[.pointer (some ⟨2,112,none⟩)]]).run prog w=.ok (.iface 268 (.agg #[.pointer (some ⟨2,49,none⟩)])) w:=Nc
theorem z6(w:World):(ReflectliteType.relation "Implements" ReflectliteType.implements_ #[.agg #[.pointer (some ⟨2,49,none⟩)],.iface 268 (.agg #[.pointer (some ⟨2,45,none⟩)])]).run prog w=.ok (.bool true) w:=Nc
theorem tR(v:Value)(w:World):(ReflectliteType.typeOf #[.iface 49 v]).run prog w=.ok (.iface 268 (.agg #[.pointer (some ⟨2,49,none⟩)])) w:=Nc
theorem CN(v:Value)(w:World):(ReflectliteType.typeOf #[.iface 106 v]).run prog w=.ok (.iface 268 (.agg #[.pointer (some ⟨2,106,none⟩)])) w:=Nc
theorem tN(w:World):(ReflectliteType.relation "AssignableTo" ReflectliteType.assignableTo #[.agg #[.pointer (some ⟨2,49,none⟩)],.iface 268 (.agg #[.pointer (some ⟨2,49,none⟩)])]).run prog w=.ok (.bool true) w:=Nc
theorem CK(w:World):(ReflectliteType.relation "AssignableTo" ReflectliteType.assignableTo #[.agg #[.pointer (some ⟨2,106,none⟩)],.iface 268 (.agg #[.pointer (some ⟨2,49,none⟩)])]).run prog w=.ok (.bool false) w:=Nc
theorem rR(n:Int)(w:World):(ReflectliteValue.unpack (.iface 49 (.int .i64 n))).run prog w
  = .ok (.agg #[.pointer (some ⟨2,49,none⟩),.pointer (some ⟨w.heap.size,0,none⟩),.int .u64 130]) (w.alloc (.cells #[.int .i64 n] 49)):=Nc
theorem CL(w:World):(Rtype.elem? 112).run prog w=.ok (some 49) w:=Nc
theorem LS(p:Addr)(w:World):(ReflectliteValue.mk 49 p ReflectliteValue.flagAddr).run prog w=.ok (.agg #[.pointer (some ⟨2,49,none⟩),.pointer (some p),.int .u64 386]) w:=Nc
theorem zV(a p:Addr)(W:World)(ha:W.cell? a=some (.pointer (some p))):
  (ReflectliteValue.method (ReflectliteValue.valueError "reflectlite.Value.Elem" 0) ReflectliteValue.elem #[.agg #[.pointer (some ⟨2,112,none⟩),.pointer (some a),.int .u64 150]]).run prog W
   = .ok (.agg #[.pointer (some ⟨2,49,none⟩),.pointer (some p),.int .u64 386]) W:=by
 rw[Iv];simp only[Sem.run_bind,wJ,Result.andThen];simp[ReflectliteValue.elem,loadVar,isAgg,underlying,underlying112,ha,Result.andThen,CL,LS]
theorem LT(v x:Value):ReflectliteValue.set #[v,x]=(do
  let (some (dst,a,fl),some (src,b,_)):=(<- ReflectliteValue.parts v,<- ReflectliteValue.parts x)
   | unsupported (.noEntry "extern/(internal/reflectlite.Value).Set.zeroValue")
  if fl / ReflectliteValue.flagAddr%2==0 then unsupported (.noEntry "extern/(internal/reflectlite.Value).Set.unaddressable")
  let val <- loadVar src b
  if <- Rtype.directlyAssignable dst src then storeVar dst a val
  else if <- Rtype.implements dst src then
   if(<- Rtype.kind src)==20 then
    match val with
    | .nilIface=>unsupported (.noEntry "extern/reflectlite: a nil value of one interface type handed on as a value of another")
    | _=>storeVar dst a val
   else storeVar dst a (.iface src val)
  else panicString ("reflectlite.Set: value of type " ++ (<- Rtype.spelt src) ++ " is not assignable to type " ++ (<- Rtype.spelt dst))
  pure (.tuple #[])):=rfl
theorem Fz(a:Addr)(w:World):(ReflectliteValue.parts (.agg #[.pointer (some ⟨2,49,none⟩),.pointer (some a),.int .u64 386])).run prog w=.ok (some (49,a,386)) w:=Nc
theorem CM(a:Addr)(w:World):(ReflectliteValue.parts (.agg #[.pointer (some ⟨2,49,none⟩),.pointer (some a),.int .u64 130])).run prog w=.ok (some (49,a,130)) w:=Nc
theorem Fy(w:World):(Rtype.directlyAssignable 49 49).run prog w=.ok true w:=Nc
theorem Nq{p:Prop}(h:p:=by rfl):p:=h
theorem Iw(ta b:Addr)(n:Int)(old:Value)(W:World)(hb:W.cell? b=some (.int .i64 n))(ht:W.cell? ta=some old)(hf:W.frozen? ta=false):
  (ReflectliteValue.set #[.agg #[.pointer (some ⟨2,49,none⟩),.pointer (some ta),.int .u64 386],.agg #[.pointer (some ⟨2,49,none⟩),.pointer (some b),.int .u64 130]]).run prog W
   = .ok (.tuple #[]) (W.setCell ta (.int .i64 n)):=by
 rw[LT];simp only[Sem.run_bind,Fz,CM,Result.andThen];simp[ReflectliteValue.flagAddr,loadVar,isAgg,underlying,underlying49,hb,Result.andThen,Fy,storeVar,Value.cells,storeCells,Addr.add];rw[run_store prog W ta _ _ Nq];simp[ht,hf]
theorem om(h:Value)(w:World):(Go.method 462 268 (.agg #[h]) "Kind").run prog w=.ok (211,h) w:=Nc
theorem og(h:Value)(w:World):(Go.method 462 268 (.agg #[h]) "Elem").run prog w=.ok (226,.agg #[h]) w:=Nc
theorem oh(h:Value)(w:World):(Go.method 462 268 (.agg #[h]) "Implements").run prog w=.ok (227,.agg #[h]) w:=Nc
theorem mz(h:Value)(w:World):(Go.method 462 268 (.agg #[h]) "AssignableTo").run prog w=.ok (224,.agg #[h]) w:=Nc
theorem rQ(args:Array Value)(w:World):(callFunc 93 args).run prog w=(((fun args=>ReflectliteValue.unpack (args.getD 0 (.tuple #[]))) args).run prog w).andThen fun v w'=>.ok (.value v) w' :=
 run_callFunc_extern (e:=(fun args=>ReflectliteValue.unpack (args.getD 0 (.tuple #[])))) func93 Nc Nc Nc Nc args w
theorem zZ(args:Array Value)(w:World):(callFunc 94 args).run prog w=(((ReflectliteValue.methodAny (ReflectliteValue.valueError "reflectlite.Value.Type" 0) (fun t _ _ _=>ReflectliteType.toType t)) args).run prog w).andThen fun v w'=>.ok (.value v) w' :=
 run_callFunc_extern (e:=(ReflectliteValue.methodAny (ReflectliteValue.valueError "reflectlite.Value.Type" 0) (fun t _ _ _=>ReflectliteType.toType t))) func94 Nc Nc Nc Nc args w
theorem wG(args:Array Value)(w:World):(callFunc 95 args).run prog w=(((ReflectliteValue.method (ReflectliteValue.valueError "reflectlite.Value.IsNil" 0) ReflectliteValue.isNil) args).run prog w).andThen fun v w'=>.ok (.value v) w' :=
 run_callFunc_extern (e:=(ReflectliteValue.method (ReflectliteValue.valueError "reflectlite.Value.IsNil" 0) ReflectliteValue.isNil)) func95 Nc Nc Nc Nc args w
theorem zY(args:Array Value)(w:World):(callFunc 211 args).run prog w=(((ReflectliteType.abiMethod fun t=>do pure (.int .u8 (<- Rtype.kind t))) args).run prog w).andThen fun v w'=>.ok (.value v) w' :=
 run_callFunc_extern (e:=(ReflectliteType.abiMethod fun t=>do pure (.int .u8 (<- Rtype.kind t)))) func211 Nc Nc Nc Nc args w
theorem zW(args:Array Value)(w:World):(callFunc 226 args).run prog w=(((ReflectliteType.method ReflectliteType.elem) args).run prog w).andThen fun v w'=>.ok (.value v) w' :=
 run_callFunc_extern (e:=(ReflectliteType.method ReflectliteType.elem)) func226 Nc Nc Nc Nc args w
theorem zX(args:Array Value)(w:World):(callFunc 227 args).run prog w=(((ReflectliteType.relation "Implements" ReflectliteType.implements_) args).run prog w).andThen fun v w'=>.ok (.value v) w' :=
 run_callFunc_extern (e:=(ReflectliteType.relation "Implements" ReflectliteType.implements_)) func227 Nc Nc Nc Nc args w
theorem tQ(args:Array Value)(w:World):(callFunc 136 args).run prog w=((ReflectliteType.typeOf args).run prog w).andThen fun v w'=>.ok (.value v) w' :=
 run_callFunc_extern (e:=ReflectliteType.typeOf) func136 Nc Nc Nc Nc args w
theorem tP(args:Array Value)(w:World):(callFunc 224 args).run prog w=(((ReflectliteType.relation "AssignableTo" ReflectliteType.assignableTo) args).run prog w).andThen fun v w'=>.ok (.value v) w' :=
 run_callFunc_extern (e:=(ReflectliteType.relation "AssignableTo" ReflectliteType.assignableTo)) func224 Nc Nc Nc Nc args w
theorem wH(args:Array Value)(w:World):(callFunc 137 args).run prog w=(((ReflectliteValue.method (ReflectliteValue.valueError "reflectlite.Value.Elem" 0) ReflectliteValue.elem) args).run prog w).andThen fun v w'=>.ok (.value v) w' :=
 run_callFunc_extern (e:=(ReflectliteValue.method (ReflectliteValue.valueError "reflectlite.Value.Elem" 0) ReflectliteValue.elem)) func137 Nc Nc Nc Nc args w
theorem Ez(args:Array Value)(w:World):(callFunc 138 args).run prog w=((ReflectliteValue.set args).run prog w).andThen fun v w'=>.ok (.value v) w' :=
 run_callFunc_extern (e:=ReflectliteValue.set) func138 Nc Nc Nc Nc args w
theorem Kn(a:Addr)(w:World):(Instr.typeAssert (.iface 106 (.pointer (some a))) 45 273 true).run prog w=.ok (.tuple #[.nilIface,.bool false]) w :=
 run_typeAssert_lacksB underlying273 Nc Nc (.pointer (some a)) 45 w
theorem Ko(a:Addr)(w:World):(Instr.typeAssert (.iface 106 (.pointer (some a))) 45 276 true).run prog w=.ok (.tuple #[.iface 106 (.pointer (some a)),.bool true]) w:=Nc
theorem Ab(a:Addr)(w:World):(Go.method 462 106 (.pointer (some a)) "Unwrap").run prog w=.ok (216,.pointer (some a)) w:=Nc
def bh(w:World):Prop:=w.cell? ⟨0,0,none⟩=some (.iface 268 (.agg #[.pointer (some ⟨2,45,none⟩)]))
theorem Kl(n:Int)(t:Addr)(old:Value)(w:World)(hg:w.cell? ⟨0,0,none⟩=some (.iface 268 (.agg #[.pointer (some ⟨2,45,none⟩)])))(ht0:w.cell? t=some old)(hf0:w.frozen? t=false):
  Calls prog 49 #[.iface 49 (.int .i64 n),.iface 112 (.pointer (some t))] w fun ev w'=>ev=.returned (.bool true) /\
   w'=(((((w.alloc (.cells #[.pointer (some t)] 112)).alloc (.cells #[.pointer (some ⟨2,112,none⟩),.pointer (some ⟨w.heap.size,0,none⟩),.int .u64 150] 197)).alloc (.cells #[.pointer (some ⟨2,112,none⟩),.pointer (some ⟨w.heap.size,0,none⟩),.int .u64 150] 197)).alloc (.cells #[.int .i64 n] 49)).setCell t (.int .i64 n)):=by
 have h1:=rQ;have h2:=zZ;have h3:=wG;have h4:=zY;have h5:=zW;have h6:=zX;have h7:=tQ;have h8:=tP;have h9:=wH;have h10:=Ez;have x1:=rS;have x2:=Ac;have x3:=Aa;have x4:=z7;have x6:=zU;have x7:=z6;have x8:=tR;have x9:=tN;have y1:=rR;have m1:=om;have m2:=og;have m3:=oh;have m4:=mz;have n8:=wI ⟨w.heap.size,0,none⟩ t ((w.alloc (.cells #[.pointer (some t)] 112)).alloc (.cells #[.pointer (some ⟨2,112,none⟩),.pointer (some ⟨w.heap.size,0,none⟩),.int .u64 150] 197)) Nh
 have hlt:0<w.heap.size:=by
  rcases Nat.eq_zero_or_pos w.heap.size with h0|h
  ·simp[World.cell?,h0]at hg
  ·exact h
 have hg2:((w.alloc (.cells #[.pointer (some t)] 112)).alloc (.cells #[.pointer (some ⟨2,112,none⟩),.pointer (some ⟨w.heap.size,0,none⟩),.int .u64 150] 197)).cell? ⟨0,0,none⟩=some (.iface 268 (.agg #[.pointer (some ⟨2,45,none⟩)])):=by
  rw[World.cell?_alloc_lt _ _ ⟨0,0,none⟩ Nh,World.cell?_alloc_lt _ _ ⟨0,0,none⟩ hlt];exact hg
 have htl:t.block<w.heap.size:=by
  rcases Nat.lt_or_ge t.block w.heap.size with h|h
  ·exact h
  ·simp[World.cell?,Array.getElem?_eq_none h]at ht0
 have el:=zV ⟨w.heap.size,0,none⟩ t (((w.alloc (.cells #[.pointer (some t)] 112)).alloc (.cells #[.pointer (some ⟨2,112,none⟩),.pointer (some ⟨w.heap.size,0,none⟩),.int .u64 150] 197)).alloc (.cells #[.pointer (some ⟨2,112,none⟩),.pointer (some ⟨w.heap.size,0,none⟩),.int .u64 150] 197)) (by rw[World.cell?_alloc_lt _ _ ⟨w.heap.size,0,none⟩ Nj];simp)
 have st:=Iw t ⟨w.heap.size+1+1+1,0,none⟩ n old ((((w.alloc (.cells #[.pointer (some t)] 112)).alloc (.cells #[.pointer (some ⟨2,112,none⟩),.pointer (some ⟨w.heap.size,0,none⟩),.int .u64 150] 197)).alloc (.cells #[.pointer (some ⟨2,112,none⟩),.pointer (some ⟨w.heap.size,0,none⟩),.int .u64 150] 197)).alloc (.cells #[.int .i64 n] 49))
  (by rw[World.cell?_alloc_at _ _ _ _ Nh];rfl)
  (by rw[World.cell?_alloc_lt _ _ t Nj,World.cell?_alloc_lt _ _ t Nj,World.cell?_alloc_lt _ _ t Nj,World.cell?_alloc_lt _ _ t htl];exact ht0)
  (by rw[World.frozen?_alloc_old _ _ t Nj,World.frozen?_alloc_old _ _ t Nj,World.frozen?_alloc_old _ _ t Nj,World.frozen?_alloc_old _ _ t (Nat.ne_of_lt htl)];exact hf0)
 go_enter func49,ntmps49;go_wp2;refine wp_loop_rounds 1 ?_;rw[rounds_succ];go_wp2;go_ret;exact⟨rfl,rfl⟩
theorem Km(p:Nat)(n:Int)(t:Addr)(old:Value)(w:World)(hg:w.cell? ⟨0,0,none⟩=some (.iface 268 (.agg #[.pointer (some ⟨2,45,none⟩)])))(hp:w.cell? ⟨p,1,none⟩=some (.int .i64 n))(ht0:w.cell? t=some old)(hf0:w.frozen? t=false):
  Calls prog 49 #[.iface 106 (.pointer (some ⟨p,0,none⟩)),.iface 112 (.pointer (some t))] w fun ev w'=>ev=.returned (.bool true) /\
   w'=(((((w.alloc (.cells #[.pointer (some t)] 112)).alloc (.cells #[.pointer (some ⟨2,112,none⟩),.pointer (some ⟨w.heap.size,0,none⟩),.int .u64 150] 197)).alloc (.cells #[.pointer (some ⟨2,112,none⟩),.pointer (some ⟨w.heap.size,0,none⟩),.int .u64 150] 197)).alloc (.cells #[.int .i64 n] 49)).setCell t (.int .i64 n)):=by
 have h1:=rQ;have h2:=zZ;have h3:=wG;have h4:=zY;have h5:=zW;have h6:=zX;have h7:=tQ;have h8:=tP;have h9:=wH;have h10:=Ez;have x1:=rS;have x2:=Ac;have x3:=Aa;have x4:=z7;have x6:=zU;have x7:=z6;have x8:=tR;have z8:=CN;have z9:=CK;have za:=Kn;have zu:=Ko;have zm:=Ab;have x9:=tN;have y1:=rR;have m1:=om;have m2:=og;have m3:=oh;have m4:=mz;have n8:=wI ⟨w.heap.size,0,none⟩ t ((w.alloc (.cells #[.pointer (some t)] 112)).alloc (.cells #[.pointer (some ⟨2,112,none⟩),.pointer (some ⟨w.heap.size,0,none⟩),.int .u64 150] 197)) Nh
 have hlt:0<w.heap.size:=by
  rcases Nat.eq_zero_or_pos w.heap.size with h0|h
  ·simp[World.cell?,h0]at hg
  ·exact h
 have hg2:((w.alloc (.cells #[.pointer (some t)] 112)).alloc (.cells #[.pointer (some ⟨2,112,none⟩),.pointer (some ⟨w.heap.size,0,none⟩),.int .u64 150] 197)).cell? ⟨0,0,none⟩=some (.iface 268 (.agg #[.pointer (some ⟨2,45,none⟩)])):=by
  rw[World.cell?_alloc_lt _ _ ⟨0,0,none⟩ Nh,World.cell?_alloc_lt _ _ ⟨0,0,none⟩ hlt];exact hg
 have htl:t.block<w.heap.size:=by
  rcases Nat.lt_or_ge t.block w.heap.size with h|h
  ·exact h
  ·simp[World.cell?,Array.getElem?_eq_none h]at ht0
 have el:=zV ⟨w.heap.size,0,none⟩ t (((w.alloc (.cells #[.pointer (some t)] 112)).alloc (.cells #[.pointer (some ⟨2,112,none⟩),.pointer (some ⟨w.heap.size,0,none⟩),.int .u64 150] 197)).alloc (.cells #[.pointer (some ⟨2,112,none⟩),.pointer (some ⟨w.heap.size,0,none⟩),.int .u64 150] 197)) (by rw[World.cell?_alloc_lt _ _ ⟨w.heap.size,0,none⟩ Nj];simp)
 have st:=Iw t ⟨w.heap.size+1+1+1,0,none⟩ n old ((((w.alloc (.cells #[.pointer (some t)] 112)).alloc (.cells #[.pointer (some ⟨2,112,none⟩),.pointer (some ⟨w.heap.size,0,none⟩),.int .u64 150] 197)).alloc (.cells #[.pointer (some ⟨2,112,none⟩),.pointer (some ⟨w.heap.size,0,none⟩),.int .u64 150] 197)).alloc (.cells #[.int .i64 n] 49))
  (by rw[World.cell?_alloc_at _ _ _ _ Nh];rfl)
  (by rw[World.cell?_alloc_lt _ _ t Nj,World.cell?_alloc_lt _ _ t Nj,World.cell?_alloc_lt _ _ t Nj,World.cell?_alloc_lt _ _ t htl];exact ht0)
  (by rw[World.frozen?_alloc_old _ _ t Nj,World.frozen?_alloc_old _ _ t Nj,World.frozen?_alloc_old _ _ t Nj,World.frozen?_alloc_old _ _ t (Nat.ne_of_lt htl)];exact hf0)
 have hpl:p<w.heap.size:=World.block_lt_of_cell? w _ hp
 have hp3:(((w.alloc (.cells #[.pointer (some t)] 112)).alloc (.cells #[.pointer (some ⟨2,112,none⟩),.pointer (some ⟨w.heap.size,0,none⟩),.int .u64 150] 197)).alloc (.cells #[.pointer (some ⟨2,112,none⟩),.pointer (some ⟨w.heap.size,0,none⟩),.int .u64 150] 197)).cell? ⟨p,1,none⟩=some (.int .i64 n):=by
  rw[World.cell?_alloc_lt _ _ ⟨p,1,none⟩ Nj,World.cell?_alloc_lt _ _ ⟨p,1,none⟩ Nj,World.cell?_alloc_lt _ _ ⟨p,1,none⟩ hpl];exact hp
 go_enter func49,ntmps49;go_wp2;refine wp_loop_rounds 2 ?_;rw[rounds_succ];go_wp2;rw[rounds_succ];go_wp2;go_ret;exact⟨rfl,rfl⟩
end
section
open Go.RowKit
def Lr(w:World)(v:Value)(n:Int):Prop :=
 (v=.nilIface/\n=0)\/v=.iface 49 (.int .i64 n)\/∃p,v=.iface 106 (.pointer (some ⟨p,0,none⟩))/\w.cell? ⟨p,1,none⟩=some (.int .i64 n)
theorem qf{w:World}(h:bh w):w.cell? ⟨0,0,none⟩=some (.iface 268 (.agg #[.pointer (some ⟨2,45,none⟩)])):=h
theorem bh.keep{S:Nat->Prop}{w w':World}(h:bh w)(hm:N7 S w w')(hS:¬S 0):bh w':=(World.cell?_of_block (w:=w) (hm.block 0 (World.block_lt_of_cell? w _ h) hS)).trans h
def Il(n:Int)(w:World)(e:Ending)(w':World):Prop:=e=.returned (.int .i64 n)/\aV w w'
theorem bc(v:Value)(n:Int)(w:World)(hL:bh w)(hv:Lr w v n):Calls prog 19 #[v] w (Il n w):=by
 rcases hv with⟨rfl,rfl⟩|rfl|⟨p,rfl,hp⟩
 ·go_enter func19,ntmps19;go_wp2;go_ret;exact⟨rfl,(N7.refl _ w).alloc _⟩
 ·have h0:0<w.heap.size:=World.block_lt_of_cell? w _ hL;have hg:(w.alloc (.cells #[.int .i64 0] 49)).cell? ⟨0,0,none⟩=_:=(World.cell?_alloc_lt _ _ ⟨0,0,none⟩ h0).trans (qf hL);have hc:=Kl n ⟨w.heap.size,0,none⟩ (.int .i64 0) _ hg Nh (aY (aM w _) 0);have HC:=NZ hc;clear hc hg hL;go_enter func19,ntmps19;go_wp2_with fail;refine HC.o.mono ?_;rintro e w' ⟨rfl,hw⟩
  have hcell:w'.cell? ⟨w.heap.size,0,none⟩=some (.int .i64 n):=by
   rw[hw];exact aa (bq (b:=w.heap.size) (c:=#[.int .i64 0]) (t:=49) (fz:=(0,0)) (by rw[dZ Nj,dZ Nj,dZ Nj,dZ Nh];exact aM w _) 0 (.int .i64 n)) 0 rfl
  have hs:aV w w':=by
   rw[hw];exact N7.Qk (Nat.le_refl _) (((((((N7.refl _ w).alloc _).alloc _).alloc _).alloc _).alloc _)) _
  have HS:=NZ hs;clear hw hs;go_wp2;go_ret;exact⟨rfl,HS.o⟩
 ·have h0:0<w.heap.size:=World.block_lt_of_cell? w _ hL;have hg:(w.alloc (.cells #[.int .i64 0] 49)).cell? ⟨0,0,none⟩=_:=(World.cell?_alloc_lt _ _ ⟨0,0,none⟩ h0).trans (qf hL);have hp':(w.alloc (.cells #[.int .i64 0] 49)).cell? ⟨p,1,none⟩=some (.int .i64 n):=(World.cell?_alloc_lt _ _ ⟨p,1,none⟩ (World.block_lt_of_cell? w _ hp)).trans hp;have hc:=Km p n ⟨w.heap.size,0,none⟩ (.int .i64 0) _ hg hp' Nh (aY (aM w _) 0);have HC:=NZ hc;clear hc hg hL hp hp';go_enter func19,ntmps19;go_wp2_with fail;refine HC.o.mono ?_;rintro e w' ⟨rfl,hw⟩
  have hcell:w'.cell? ⟨w.heap.size,0,none⟩=some (.int .i64 n):=by
   rw[hw];exact aa (bq (b:=w.heap.size) (c:=#[.int .i64 0]) (t:=49) (fz:=(0,0)) (by rw[dZ Nj,dZ Nj,dZ Nj,dZ Nh];exact aM w _) 0 (.int .i64 n)) 0 rfl
  have hs:aV w w':=by
   rw[hw];exact N7.Qk (Nat.le_refl _) (((((((N7.refl _ w).alloc _).alloc _).alloc _).alloc _).alloc _)) _
  have HS:=NZ hs;clear hw hs;go_wp2;go_ret;exact⟨rfl,HS.o⟩
end
section
open Go.ChangeShapes Go.WideShapes Go.RowKit
theorem Me:ownKnob prog.godebug=none:=Nc
theorem MA:prog.globalNamed "errors.errorType" = some 0:=Nc
theorem MB:(prog.cutTypes.find? (·.1 == "internal/reflectlite.rtype")).map (·.2)=some 268:=Nc
theorem Gh:((range 362).filter fun t=>prog.rowNamed t [101,114,114,111,114])=[45]:=Nc
theorem KR:prog.types.size=362:=Nc
theorem De{W:World}(h:laidMetH prog [("errors.errorType",Rows.laid_errors_errorType)] W):bh W:=by
 have h':laidMet prog [] W/\handlesMet prog [("errors.errorType",Rows.laid_errors_errorType)] W:=h;obtain⟨name,u,ty,e1,e2,e3,e4,e5⟩:=h'.2 _ (mem_singleton.2 rfl);have en:name=[101,114,114,111,114]:=(Option.some.inj e1).symm;subst en;obtain rfl:=Option.some.inj (MB.symm.trans e2);have hm:ty∈(range 362).filter fun t=>prog.rowNamed t [101,114,114,111,114]:=mem_filter.2 ⟨mem_range.2 (by rw[<- KR];exact e3),e4⟩
 rw[Gh]at hm;obtain rfl:=mem_singleton.1 hm;have hh:typeHandle prog 45=.pointer (some ⟨2,45,none⟩):=Nc
 rw[hh]at e5;unfold bh;simpa using World.var?_cell MA e5 0
noncomputable def rk(os:Os):World :=
 let w0:=World.holding prog os ⟨#[],#[],[]⟩
 { w0 with heap:=w0.heap.modify 0 fun
   | .cells _ t frozen=>.cells #[.iface 268 (.agg #[.pointer (some ⟨2,45,none⟩)])] t frozen
   | o=>o }
theorem vW(os:Os)(args:Array Value):laidMetH prog [("errors.errorType",Rows.laid_errors_errorType)] ((rk os).forCall (fun _ _=>0) ⟨#[],args,[]⟩).memory :=
 laidMetH_of_parts (laidMet_nil _ _) Nc
end
section
open Go.RowKit
section
variable {P:Program} (w:World)
theorem jq(t ty e:TypeId)(i:TypeInfo)(z:Value)(size bytes:Nat)(ht:P.underlying t=some (.slice e))(hi:P.info? e=some i)(hz:i.zero=some z)(hsize:i.size=size)(hby:i.bytes=bytes)(hzs:z.cells.size=size)(hsz:0<size)(v:Value)(n:Nat)(xs:List Value)(hown:w.ownsRow 0 e size v n xs)(a:Addr)(m c:Nat)(news:List Value)(hl:news.length=m*size)(hnews:∀j u,news[j]?=some u->w.cell? (a.add j)=some u)(h1:∀u∈news,u.oneCell'=true)(h63:n+m<=maxLen)(hbytes:(n+m)*bytes<=140737488355328):
  ∃v' w',(Builtin.append_ #[t,t] ty #[v,.slice (some a) m c]).run P w=.ok v' w'/\w'.ownsRow 0 e size v' (n+m) (xs++news)/\w.grownBy w' v.ownBlock /\
   (v'=.slice none 0 0↔v=.slice none 0 0/\m=0)/\(∀g,v'.ownBlock=some g->v.ownBlock=some g\/w.heap.size<=g):=by
 obtain⟨v',w',hr,h2,h3,h4⟩:=run_append_own (P:=P) w 0 t ty e i z size bytes ht hi hz hsize hby hzs hsz v n xs hown a m c news hl hnews h1 h63 hbytes (Nat.zero_le _);refine⟨v',w',hr,h2,h3,h4,?_⟩;rcases hown.2 with⟨rfl,rfl⟩|⟨g,cap,cur,rfl,hbg,hg,hnc,hcm,hcs,htake⟩
 ·have hx:xs=[]:=eq_nil_of_length_eq_zero (by simpa using hown.1);subst hx;obtain⟨v2,w2,hr2,h22,_⟩:=run_append_own (P:=P) w w.heap.size t ty e i z size bytes ht hi hz hsize hby hzs hsz _ 0 [] (World.ownsRow_nil w w.heap.size e size) a m c news hl hnews h1 h63 hbytes (Nat.le_refl _);rw[hr]at hr2
  cases hr2
  exact fun g hg=>.inr (h22.lt g hg).1
 ·subst hsize;subst hby
  have hsmall:n+m<=9223372036854775807:=by simp only[maxLen]at h63;omega
  by_cases hroom:n+m<=cap
  ·have hfit:n*i.size+news.length<=cur.size:=by rw[hl,hcs,<- Nat.add_mul];exact Nat.mul_le_mul_right _ hroom
   have hr2:=run_append_room (P:=P) w t ty e i ht hi g n cap cur hg a m c news hl hnews h1 hroom hfit;rw[hr]at hr2
   cases hr2
   exact fun g' hg'=>.inl hg'
  ·have holds:∀j u,xs[j]?=some u->w.cell? ((⟨g,0,none⟩:Addr).add j)=some u:=hown.cells (g:=g) rfl;have hr2:=run_append_grow (P:=P) w t ty e i z ht hi hz ⟨g,0,none⟩ n cap xs hown.1 holds a m c news hl hnews Nb Nb (growslice_fits Nb hbytes);rw[hr]at hr2
   cases hr2
   exact fun g' hg'=>by simp[Value.ownBlock]at hg';exact .inr Nb
end
section
variable {P:Program} (w:World)
theorem mE(t ty e:TypeId)(i:TypeInfo)(size:Nat)(ht:P.underlying t=some (.slice e))(hi:P.info? e=some i)(v:Value)(n:Nat)(xs:List Value)(hown:w.ownsRow 0 e size v n xs)(sa:Option Addr)(c:Nat):
  (Builtin.append_ #[t,t] ty #[v,.slice sa 0 c]).run P w=.ok v w:=by
 cases sa<;>rcases hown.2 with⟨rfl,rfl⟩|⟨g,cap,cur,rfl,_,_,hnc,_⟩ <;>
  simp[Builtin.append_,run_underlying ht,sizeOf,typeInfo,Builtin.lenOf,Builtin.firstCells,loadCells,loadCellsFrom,storeCells, *]
theorem uW(t ty e:TypeId)(i:TypeInfo)(z:Value)(bytes:Nat)(ht:P.underlying t=some (.slice e))(hi:P.info? e=some i)(hz:i.zero=some z)(hsize:i.size=1)(hby:i.bytes=bytes)(hzs:z.cells.size=1)(v:Value)(n:Nat)(xs:List Value)(hown:w.ownsRow 0 e 1 v n xs)(sa:Option Addr)(c:Nat)(news:List Value)(hnews:ak w sa news)(h1:∀u∈news,u.oneCell'=true)(h63:n+news.length<=maxLen)(hbytes:(n+news.length)*bytes<=140737488355328):
  ∃v' w',(Builtin.append_ #[t,t] ty #[v,.slice sa news.length c]).run P w=.ok v' w'/\w'.ownsRow 0 e 1 v' (n+news.length) (xs++news)/\w.grownBy w' v.ownBlock/\(∀g,v'.ownBlock=some g->v.ownBlock=some g\/w.heap.size<=g):=by
 by_cases hp:0<news.length
 ·obtain⟨g,off,rfl,hc⟩:=hnews hp
  obtain⟨v',w',r,r1,r2,r3,r4⟩:=jq (P:=P) w t ty e i z 1 bytes ht hi hz hsize hby hzs Nk v n xs hown ⟨g,off,none⟩ news.length c news Nh
   (fun j u hu=>by obtain⟨hj,rfl⟩:=List.getElem?_eq_some_iff.1 hu;rw[Addr.add_lit];exact hc j hj) h1 h63 hbytes
  exact⟨v',w',r,r1,r2,r4⟩
 ·obtain rfl:news=[]:=eq_nil_of_length_eq_zero Nb;exact⟨v,w,mE (P:=P) w t ty e i 1 ht hi v n xs hown sa c,by simpa using hown,⟨rfl,rfl,rfl,Nat.le_refl _,fun _ _ _=>rfl⟩,fun g h=>.inl h⟩
end
section
variable {F:Fence} {nn:Nat} {P:Program}
theorem qK(w:World){ops:Array Oper}{rest:List Oper}{o:Oper}{a:Act}{Q:Exit->Act->World->Prop}(hg:o.guard=none)(s x:Operand)(t:TypeId)(hop:o.op=Op.call { callee:=Callee.builtin Builtin.append,args:=#[s,x],argTypes:=#[t,t] })(e:TypeId)(i:TypeInfo)(z:Value)(bytes:Nat)(h1:P.underlying t=some (.slice e))(h2:P.info? e=some i)(h3:i.zero=some z)(h4:i.size=1)(h5:i.bytes=bytes)(h6:z.cells.size=1)(v:Value)(k:Nat)(xs:List Value)(hs:a.eval s=v)(hown:w.ownsRow 0 e 1 v k xs)(sa:Option Addr)(m c:Nat)(news:List Value)(hx:a.eval x=.slice sa m c)(hn:news.length=m)(hc:ak w sa news)(h1c:∀u∈news,u.oneCell'=true)(b1:k+m<=maxLen)(b2:(k+m)*bytes<=140737488355328)(hK:∀v' w',w'.ownsRow 0 e 1 v' (k+m) (xs++news)->w.grownBy w' v.ownBlock->(∀g,v'.ownBlock=some g->v.ownBlock=some g\/w.heap.size<=g)->wpList P ops Q rest (a.put o.dst v') w'):
  wpList P ops Q (o::rest) a w:=by
 subst hn;refine wpList_plain hg fun K hK'=>?_
 obtain⟨v',w',hr,r1,r2,r4⟩:=uW (P:=P) w t o.type e i z bytes h1 h2 h3 h4 h5 h6 v k xs hown sa c news hc h1c b1 b2;unfold Oper.wp execOp;simp only[hop,resolve,invoke,builtin,Sem.run_bind,Sem.run_pure,Result.andThen_ok,map_toArray,map_cons,map_nil,hs,hx,hr];exact hK' _ _ (hK v' w' r1 r2 r4)
theorem gA(w:World){ops:Array Oper}{rest:List Oper}{o:Oper}{a:Act}{Q:Exit->Act->World->Prop}(hg:o.guard=none)(s x:Operand)(t:TypeId)(hop:o.op=Op.call { callee:=Callee.builtin Builtin.append,args:=#[s,x],argTypes:=#[t,t] })(e:TypeId)(i:TypeInfo)(z:Value)(size bytes:Nat)(h1:P.underlying t=some (.slice e))(h2:P.info? e=some i)(h3:i.zero=some z)(h4:i.size=size)(h5:i.bytes=bytes)(h6:z.cells.size=size)(h7:0<size)(v:Value)(k:Nat)(xs:List Value)(hs:a.eval s=v)(hown:w.ownsRow 0 e size v k xs)(ad:Addr)(m c:Nat)(news:List Value)(hx:a.eval x=.slice (some ad) m c)(hn:news.length=m*size)(hc:∀j u,news[j]?=some u->w.cell? (ad.add j)=some u)(h1c:∀u∈news,u.oneCell'=true)(b1:k+m<=maxLen)(b2:(k+m)*bytes<=140737488355328)(hK:∀v' w',w'.ownsRow 0 e size v' (k+m) (xs++news)->w.grownBy w' v.ownBlock->(v'=.slice none 0 0↔v=.slice none 0 0/\m=0)->(∀g,v'.ownBlock=some g->v.ownBlock=some g\/w.heap.size<=g) ->
   wpList P ops Q rest (a.put o.dst v') w'):
  wpList P ops Q (o::rest) a w:=by
 refine wpList_plain hg fun K hK'=>?_
 obtain⟨v',w',hr,r1,r2,r3,r4⟩:=jq (P:=P) w t o.type e i z size bytes h1 h2 h3 h4 h5 h6 h7 v k xs hown ad m c news hn hc h1c b1 b2;unfold Oper.wp execOp;simp only[hop,resolve,invoke,builtin,Sem.run_bind,Sem.run_pure,Result.andThen_ok,map_toArray,map_cons,map_nil,hs,hx,hr];exact hK' _ _ (hK v' w' r1 r2 r3 r4)
end
theorem yR{w:World}{b b' e size n:Nat}{v:Value}{xs:List Value}(h:w.ownsRow b e size v n xs)(hb:∀g,v.ownBlock=some g->b'<=g):w.ownsRow b' e size v n xs:=by
 refine⟨h.1,?_⟩;rcases h.2 with hn|⟨g,cap,cur,rfl,hbg,hgg,rest⟩
 ·exact .inl hn
 ·exact .inr ⟨g,cap,cur,rfl,hb g rfl,hgg,rest⟩
theorem N7.Qm{w w':World}{row:Option Nat}(h:w.grownBy w' row):N7 (fun k=>row=some k) w w' :=
 ⟨h.os,h.tape,h.output,h.size,fun k hk hS=>h.block k hk (fun e=>hS e.symm)⟩
theorem N7.setRow{S:Nat->Prop}{a w:World}{g:Nat}(h:N7 S a w)(hg:S g\/a.heap.size<=g)(cs:Array Value):N7 S a (w.setRow g cs) :=
 ⟨h.os,h.tape,h.output,by simpa[World.setRow]using h.size,fun k hk hs=>(setRow_other w g k cs (fun e=>by subst e;rcases hg with h'|h'<;>first|exact absurd h' hs|omega)).trans (h.block k hk hs)⟩
theorem gn{P:Program}{w:World}{ops:Array Oper}{rest:List Oper}{o:Oper}{a:Act}{Q:Exit->Act->World->Prop}(hgd:o.guard=none)(d s:Operand)(dT sT:TypeId)(ho:o.op=.call { callee:=.builtin .copy,args:=#[d,s],argTypes:=#[dT,sT] })(elem:TypeId)(hu:P.underlying dT=some (.slice elem))(hsz:(P.info? elem).map (·.size)=some 1)(dp sp:Option Addr)(dLen dCap sLen sCap:Nat)(hd:a.eval d=.slice dp dLen dCap)(hs:a.eval s=.slice sp sLen sCap)(g off:Nat)(cur:List Value)(t:TypeId)(hg:w.heap[g]?=some (.cells cur.toArray t (0,0)))(cs:List Value)(hn:cs.length=Nat.min sLen dLen)(hpos:0<cs.length->dp=some ⟨g,off,none⟩/\∃ad,sp=some ad/\∀j v,cs[j]?=some v->w.cell? (ad.add j)=some v)(hfit:off+cs.length<=cur.length)(h1:∀v∈cs,v.oneCell'=true)(h:∀w',w'.heap[g]?=some (.cells (splice cur off cs).toArray t (0,0))->N7 (fun k=>k=g) w w'->w'.heap.size=w.heap.size->wpList P ops Q rest (a.put o.dst (goInt cs.length)) w'):
  wpList P ops Q (o::rest) a w:=by
 by_cases h0:cs.length=0
 ·obtain rfl:cs=[]:=eq_nil_of_length_eq_zero h0;refine wpList_copy_nothing hgd d s dT sT ho elem hu hsz dp sp dLen dCap sLen sCap hd hs (by simpa using hn.symm) ?_;exact h w (show _=_ by simpa[splice]using hg) (N7.refl _ _) rfl
 ·obtain⟨rfl,ad,rfl,hsrc⟩:=hpos Nb;refine wpList_copy_own hgd d s dT sT ho elem hu hsz g off dLen dCap ad sLen sCap hd hs cur.toArray t hg cs hn hsrc (by simpa using hfit) h1 ?_;exact h _ (show _=_ by simpa[splice]using setRow_heap w g _ _ t _ hg) (N7.setRow (S:=fun k=>k=g) (N7.refl _ _) (.inl rfl) _) (by simp[World.setRow])
end
section
open Go.RowKit
theorem dF(l:List UInt8):∀v∈l.map am,v.oneCell'=true:=fun v hv=>by
 obtain⟨x,_,rfl⟩:=mem_map.1 hv;rfl
abbrev HF:=List (Nat×(Obj->Prop))
def dom(F:HF):List Nat:=F.map (·.1)
@[simp] theorem ML:dom []=[]:=rfl
@[simp] theorem gL (p:Nat×(Obj->Prop)) (F:HF):dom (p::F)=p.1::dom F:=rfl
@[simp] theorem cM (F G:HF):dom (F++G)=dom F++dom G:=by simp[dom]
def Is(x o:Obj):Prop:=o=x
theorem Is.rfl{x:Obj}:Is x x:=by unfold Is;exact Eq.refl x
structure Sat (w:World) (F:HF):Prop where
 nodup:(dom F).Nodup
 sat:∀p∈F,∃o,w.heap[p.1]?=some o/\p.2 o
structure Turns (F F':HF) (w w':World):Prop where
 mods:N7 (fun b=>b∈dom F) w w'
 sat:Sat w' F'
 fresh:∀b∈dom F',b∈dom F\/w.heap.size<=b
theorem mQ{F G:HF}(h:F.Perm G):(dom F).Perm (dom G):=h.map _
theorem Sat.lt{w:World}{F:HF}(h:Sat w F){b:Nat}(hb:b∈dom F):b<w.heap.size:=by
 obtain⟨p,hp,rfl⟩:=mem_map.1 hb;obtain⟨o,ho,_⟩:=h.sat p hp;exact ae ho
theorem Sat.perm{w:World}{F G:HF}(h:Sat w F)(hp:F.Perm G):Sat w G :=
 ⟨(mQ hp).nodup_iff.1 h.nodup,fun p hq=>h.sat p (hp.mem_iff.2 hq)⟩
theorem Sat.left{w:World}{F G:HF}(h:Sat w (F++G)):Sat w F :=
 ⟨by have:=h.nodup;rw[cM]at this;exact(nodup_append.1 this).1,fun p hp=>h.sat p (mem_append_left _ hp)⟩
theorem Sat.right{w:World}{F G:HF}(h:Sat w (F++G)):Sat w G :=
 ⟨by have:=h.nodup;rw[cM]at this;exact(nodup_append.1 this).2.1,fun p hp=>h.sat p (mem_append_right _ hp)⟩
theorem Sat.Qh{w:World}{F G:HF}(h:Sat w (F++G)){b:Nat}(hb:b∈dom F):b∉dom G:=by
 have:=h.nodup;rw[cM]at this;intro hg;exact(nodup_append.1 this).2.2 b hb b hg rfl
theorem Sat.join{w:World}{F G:HF}(h:Sat w F)(k:Sat w G)(hd:∀b∈dom F,b∉dom G):Sat w (F++G) :=
 ⟨by rw[cM];exact nodup_append.2 ⟨h.nodup,k.nodup,fun a ha b hb e=>hd a ha (e ▸ hb)⟩,
  fun p hp=>by rcases mem_append.1 hp with h'|h';exact h.sat p h';exact k.sat p h'⟩
theorem Sat.nil(w:World):Sat w []:=⟨nodup_nil,fun p hp=>by simp at hp⟩
theorem Sat.one{w:World}{b:Nat}{φ:Obj->Prop}{o:Obj}(h:w.heap[b]?=some o)(ho:φ o):Sat w [(b,φ)] :=
 ⟨by simp[dom],fun p hp=>by simp at hp;subst hp;exact⟨o,h,ho⟩⟩
theorem Sat.frame{S:Nat->Prop}{w w':World}{F:HF}(h:Sat w F)(hm:N7 S w w')(hS:∀b∈dom F,¬S b):Sat w' F :=
 ⟨h.nodup,fun p hp=>by
  obtain⟨o,ho,hφ⟩:=h.sat p hp
  exact⟨o,hm.at ho (hS p.1 (mem_map.2 ⟨p,hp,rfl⟩)),hφ⟩⟩
theorem Sat.same{w w':World}{F:HF}(h:Sat w F)(hm:aV w w'):Sat w' F:=h.frame hm (fun _ _=>id)
theorem Sat.weak{w:World}{b:Nat}{φ ψ:Obj->Prop}{F:HF}(h:Sat w ((b,φ)::F))(hw:∀o,φ o->ψ o):Sat w ((b,ψ)::F) :=
 ⟨h.nodup,fun p hp=>by
  rcases mem_cons.1 hp with rfl|hp
  ·obtain⟨o,ho,hφ⟩:=h.sat (b,φ) Nh
   exact⟨o,ho,hw o hφ⟩
  ·exact h.sat p (mem_cons_of_mem _ hp)⟩
theorem Sat.head{w:World}{b:Nat}{φ:Obj->Prop}{F:HF}(h:Sat w ((b,φ)::F)):∃o,w.heap[b]?=some o/\φ o:=h.sat (b,φ) Nh
theorem Sat.tail{w:World}{p:Nat×(Obj->Prop)}{F:HF}(h:Sat w (p::F)):Sat w F:=Sat.right (F:=[p]) h
theorem Sat.notMem{w:World}{b:Nat}{φ:Obj->Prop}{F:HF}(h:Sat w ((b,φ)::F)):b∉dom F:=(nodup_cons.1 h.nodup).1
theorem Sat.put{w w':World}{b:Nat}{φ ψ:Obj->Prop}{F:HF}{o:Obj}(h:Sat w ((b,φ)::F))(hm:N7 (fun k=>k=b) w w')(ho:w'.heap[b]?=some o)(hψ:ψ o):Sat w' ((b,ψ)::F) :=
 Sat.join (F:=[(b,ψ)]) (Sat.one ho hψ) (h.tail.frame hm (fun k hk e=>h.notMem (e ▸ hk))) (fun k hk=>by simp at hk;subst hk;exact h.notMem)
theorem Turns.refl{w:World}{F:HF}(h:Sat w F):Turns F F w w:=⟨N7.refl _ _,h,fun _ hb=>.inl hb⟩
theorem Turns.trans{a b c:World}{F G H:HF}(h:Turns F G a b)(k:Turns G H b c):Turns F H a c :=
 ⟨h.mods.trans' k.mods h.fresh,k.sat,fun q hq=>by
  rcases k.fresh q hq with h'|h'
  ·exact h.fresh q h'
  ·exact .inr (Nat.le_trans h.mods.size h')⟩
theorem Turns.frame{w w':World}{F F':HF}(h:Turns F F' w w'){R:HF}(hs:Sat w (F++R)):Turns (F++R) (F'++R) w w' :=
 ⟨h.mods.mono (fun b hb=>.inl (by simp[hb])),h.sat.join (hs.right.frame h.mods (fun b hb hf=>hs.Qh hf hb)) (fun b hb hr=>by
   rcases h.fresh b hb with h'|h'
   ·exact hs.Qh h' hr
   ·have:=hs.right.lt hr;omega),
  fun b hb=>by
  rw[cM]at hb ⊢
  rcases mem_append.1 hb with h'|h'
  ·rcases h.fresh b h' with h''|h''
   ·exact .inl (mem_append_left _ h'')
   ·exact .inr h''
  ·exact .inl (mem_append_right _ h')⟩
theorem Turns.perm{w w':World}{F F' G G':HF}(h:Turns F F' w w')(hp:F.Perm G)(hp':F'.Perm G'):Turns G G' w w' :=
 ⟨h.mods.mono (fun b hb=>.inl ((mQ hp).mem_iff.1 hb)),h.sat.perm hp',fun b hb=>by
  rcases h.fresh b ((mQ hp').mem_iff.2 hb)with h'|h'
  ·exact .inl ((mQ hp).mem_iff.1 h')
  ·exact .inr h'⟩
theorem Turns.left{w w':World}{F G H:HF}(h:Turns F (G++H) w w'):Turns F G w w':=⟨h.mods,h.sat.left,fun b hb=>h.fresh b (by simp[hb])⟩
theorem Turns.right{w w':World}{F G H:HF}(h:Turns F (G++H) w w'):Turns F H w w':=⟨h.mods,h.sat.right,fun b hb=>h.fresh b (by simp[hb])⟩
theorem Turns.same{w w':World}{F:HF}(hs:Sat w F)(h:aV w w'):Turns F F w w':=⟨h.mods _,hs.same h,fun _ hb=>.inl hb⟩
theorem Turns.Q8{a b c:World}{F G:HF}(h:Turns F G a b)(k:aV b c):Turns F G a c:=h.trans (Turns.same h.sat k)
theorem Turns.Qg{a b c:World}{F G:HF}(hs:Sat a F)(h:aV a b)(k:Turns F G b c):Turns F G a c:=(Turns.same hs h).trans k
theorem Turns.drewN{a b:World}{F G:HF}(h:Turns F G a b)(n:Nat):Turns F G a (b.drewN n):=h.Q8 ((N7.refl _ b).drewN n)
theorem Turns.drew{a b:World}{F G:HF}(h:Turns F G a b):Turns F G a b.drew:=h.Q8 (N7.refl _ b).drew
theorem Turns.alloc{a b:World}{F G:HF}(h:Turns F G a b)(o:Obj):Turns F G a (b.alloc o):=h.Q8 ((N7.refl _ b).alloc o)
theorem Turns.Qe{a b:World}{F G:HF}(h:Turns F G a b){o:Obj}{φ:Obj->Prop}(ho:φ o):Turns F ((b.heap.size,φ)::G) a (b.alloc o) :=
 ⟨h.mods.alloc o,Sat.join (F:=[(b.heap.size,φ)]) (Sat.one (aM b o) ho) (h.sat.same ((N7.refl _ b).alloc o)) (fun k hk hg=>by
   simp at hk;subst hk;have:=h.sat.lt hg;omega),
  fun k hk=>by
  rcases mem_cons.1 hk with rfl|h'
  ·exact .inr h.mods.size
  ·exact h.fresh k h'⟩
theorem Turns.put{a w w':World}{F G:HF}{b:Nat}{φ ψ:Obj->Prop}{o:Obj}(h:Turns F ((b,φ)::G) a w)(hm:N7 (fun k=>k=b) w w')(ho:w'.heap[b]?=some o)(hψ:ψ o):Turns F ((b,ψ)::G) a w' :=
 h.trans ⟨hm.mono (fun k hk=>.inl (by simp[hk])),h.sat.put hm ho hψ,fun k hk=>.inl (by simpa using hk)⟩
theorem Turns.Qa{a w w':World}{F G:HF}{b:Nat}{φ:Obj->Prop}{o:Obj}(h:Turns F ((b,φ)::G) a w)(hm:N7 (fun k=>k=b) w w')(ho:w'.heap[b]?=some o):Turns F ((b,Is o)::G) a w':=h.put hm ho Is.rfl
theorem Turns.Q9{a b:World}{F G:HF}(h:Turns F G a b)(o:Obj):Turns F ((b.heap.size,Is o)::G) a (b.alloc o):=h.Qe Is.rfl
theorem Sat.Q5{w:World}{b:Nat}{o:Obj}{F:HF}(h:Sat w ((b,Is o)::F)):w.heap[b]?=some o:=by
 obtain⟨o',ho,hi⟩:=h.head;unfold Is at hi;subst hi;exact ho
def bH(e size:Nat)(v:Value)(n:Nat)(xs:List Value):HF :=
 match v.ownBlock with
 | none=>[]
 | some g=>[(g,fun o=>∃cap cur,v=.slice (some ⟨g,0,none⟩) n cap/\o=.cells cur e (0,0)/\n<=cap/\cap<=maxLen/\cur.size=cap*size/\cur.toList.take (n*size)=xs)]
def ei(size:Nat)(v:Value)(n:Nat)(xs:List Value):Prop:=xs.length=n*size/\(v.ownBlock=none->v=.slice none 0 0/\n=0)
theorem aW{w:World}{e size n:Nat}{v:Value}{xs:List Value}(h:Sat w (bH e size v n xs))(k:ei size v n xs):w.ownsRow 0 e size v n xs:=by
 refine⟨k.1,?_⟩;unfold bH at h
 cases hv:v.ownBlock with
 | none=>exact .inl (k.2 hv)
 | some g =>
  rw[hv]at h;obtain⟨o,ho,cap,cur,hvv,rfl,h1,h2,h3,h4⟩:=h.head;exact .inr ⟨g,cap,cur,hvv,Nat.zero_le _,ho,h1,h2,h3,h4⟩
theorem fe{w:World}{b e size n:Nat}{v:Value}{xs:List Value}(h:w.ownsRow b e size v n xs):Sat w (bH e size v n xs)/\ei size v n xs:=by
 rcases h.2 with⟨rfl,rfl⟩|⟨g,cap,cur,rfl,hb,hg,h1,h2,h3,h4⟩
 ·exact⟨by simpa[bH,Value.ownBlock]using Sat.nil w,h.1,fun _=>⟨rfl,rfl⟩⟩
 ·refine⟨?_,h.1,fun hn=>by simp[Value.ownBlock]at hn⟩;simp only[bH,Value.ownBlock];exact Sat.one hg ⟨cap,cur,rfl,rfl,h1,h2,h3,h4⟩
theorem eL(e size n:Nat)(v:Value)(xs:List Value)(b:Nat):b∈dom (bH e size v n xs)↔v.ownBlock=some b:=by
 unfold bH
 cases v.ownBlock with
 | none=>simp
 | some g=>simp[dom,eq_comm]
theorem Turns.grow{a w w':World}{F G:HF}{e size n m:Nat}{v v':Value}{xs ys:List Value}(h:Turns F (bH e size v n xs++G) a w)(hown:w'.ownsRow 0 e size v' m ys)(hgrow:w.grownBy w' v.ownBlock)(hg:∀g,v'.ownBlock=some g->v.ownBlock=some g\/w.heap.size<=g):Turns F (bH e size v' m ys++G) a w':=by
 have ht:Turns (bH e size v n xs) (bH e size v' m ys) w w' :=
  ⟨(
   N7.Qm hgrow).mono (fun b hb=>.inl ((eL _ _ _ _ _ _).2 hb)),(fe hown).1,fun b hb=>by
   rcases hg b ((eL _ _ _ _ _ _).1 hb)with h'|h'
   ·exact .inl ((eL _ _ _ _ _ _).2 h')
   ·exact .inr h'⟩
 exact h.trans (ht.frame h.sat)
end
section
abbrev Bs:=List UInt8
def yt(c:Nat):Nat:=(c / 2) ^^^ (c%2*3988292384)
def gV:Nat->Nat->Nat
 | 0,c=>c
 | n+1,c=>gV n (yt c)
def iw(c:Nat)(x:UInt8):Nat:=gV 8 (c ^^^ x.toNat)
def ix(c:Nat)(b:Bs):Nat:=b.foldl iw c
def dz(k:UInt8)(b:Bs):Nat:=4294967295 ^^^ ix (iw 4294967295 k) b
theorem nA{a b:Nat}(ha:a<4294967296)(hb:b<4294967296):a ^^^ b<4294967296:=Nat.xor_lt_two_pow (n:=32) ha hb
theorem FN{c:Nat}(h:c<4294967296):yt c<4294967296:=by
 unfold yt;refine nA Nb ?_;have:c%2<2:=Nat.mod_lt _ Nb;have h2:c%2*3988292384<=1*3988292384:=Nat.mul_le_mul_right _ Nb;omega
theorem ua(n:Nat):∀{c:Nat},c<4294967296->gV n c<4294967296:=by
 induction n with
 | zero=>intro c h;exact h
 | succ n ih=>intro c h;exact ih (FN h)
theorem vO(n:Nat):∀c,gV (n+1) c=yt (gV n c):=by
 induction n with
 | zero=>intro c;rfl
 | succ n ih=>intro c;rw[gV,ih];rfl
theorem zf(x:UInt8):x.toNat<4294967296:=by have:=UInt8.toNat_lt x;omega
theorem lR{c:Nat}(h:c<4294967296)(x:UInt8):iw c x<4294967296:=ua 8 (nA h (zf x))
theorem pd(b:Bs):∀{c:Nat},c<4294967296->ix c b<4294967296:=by
 induction b with
 | nil=>intro c h;exact h
 | cons x r ih=>intro c h;exact ih (lR h x)
theorem nj(k:UInt8)(b:Bs):dz k b<4294967296:=nA Nb (pd b (lR Nb k))
def be:Nat->Nat->Bs
 | _,0=>[]
 | n,k+1=>UInt8.ofNat (n / 256 ^ k)::be n k
def bz(b:Bs):Nat:=b.foldl (fun n x=>n*256+x.toNat) 0
theorem cf(n k:Nat):(be n k).length=k:=by
 induction k with
 | zero=>rfl
 | succ k ih=>simp[be,ih]
theorem IB(b:Bs):∀a,b.foldl (fun n x=>n*256+x.toNat) a=a*256 ^ b.length+bz b:=by
 unfold bz;induction b with
 | nil=>intro a;simp
 | cons x r ih =>
  intro a;simp only[foldl_cons,length_cons];rw[ih (a*256+x.toNat),ih (0*256+x.toNat),Nat.pow_succ];rw[Nat.zero_mul,Nat.zero_add,Nat.add_mul,Nat.mul_assoc,Nat.mul_comm 256,Nat.add_assoc]
theorem oU(x:UInt8)(r:Bs):bz (x::r)=x.toNat*256 ^ r.length+bz r:=by
 have:=IB r x.toNat;unfold bz at *
 simpa using this
theorem ju(n k:Nat):bz (be n k)=n%256 ^ k:=by
 induction k with
 | zero=>simp[be,bz,Nat.mod_one]
 | succ k ih =>
  rw[be,oU,ih,cf,UInt8.toNat_ofNat'];have e:n%256 ^ (k+1)=n%256 ^ k+256 ^ k*(n / 256 ^ k%256):=by rw[Nat.pow_succ,Nat.mod_mul]
  rw[e,Nat.mul_comm,Nat.add_comm]
theorem fU(b:Bs):bz b<256 ^ b.length:=by
 induction b with
 | nil=>simp[bz]
 | cons x r ih =>
  rw[oU,length_cons,Nat.pow_succ];have:=UInt8.toNat_lt x;have h1:x.toNat*256 ^ r.length<=255*256 ^ r.length:=Nat.mul_le_mul_right _ Nb;have h2:(256:Nat) ^ r.length*256=255*256 ^ r.length+256 ^ r.length:=Nb
  omega
theorem oV(b:Bs)(x:UInt8):bz (b++[x])=bz b*256+x.toNat:=by simp[bz,foldl_append]
def frame(k:UInt8)(body:Bs):Bs:=(k::be body.length 2)++be (65535-body.length%65536) 2++body++be (dz k body) 4
theorem bi(k:UInt8)(body:Bs):(frame k body).length=body.length+9:=by simp[frame,cf];omega
def b5(b:Bs):Option (UInt8×Bs×Nat) :=
 if b.length<9 then none
 else if b.getD 0 0=0 then none
 else
  let n:=(b.getD 1 0).toNat*256+(b.getD 2 0).toNat
  if n≠(255-(b.getD 3 0).toNat)*256+(255-(b.getD 4 0).toNat)then none
  else if b.length<n+9 then none
  else
   let body:=(b.drop 5).take n
   if bz ((b.drop (5+n)).take 4)≠dz (b.getD 0 0) body then none
   else some (b.getD 0 0,body,n+9)
theorem be2(n:Nat):be n 2=[UInt8.ofNat (n / 256),UInt8.ofNat n]:=by simp[be]
theorem jz(k:UInt8)(body rest:Bs)(hk:k≠0)(hl:body.length<65536):b5 (frame k body++rest)=some (k,body,body.length+9):=by
 have e:frame k body++rest=k::UInt8.ofNat (body.length / 256)::UInt8.ofNat body.length::UInt8.ofNat ((65535-body.length) / 256)::UInt8.ofNat (65535-body.length)::(body++(be (dz k body) 4++rest)):=by
  unfold frame;rw[be2,be2,Nat.mod_eq_of_lt hl];generalize be (dz k body) 4=s;generalize 65535-body.length=z;simp only[cons_append,nil_append,NV]
 have hn:(UInt8.ofNat (body.length / 256)).toNat*256+(UInt8.ofNat body.length).toNat=body.length:=by
  rw[UInt8.toNat_ofNat',UInt8.toNat_ofNat'];omega
 have hm:(255-(UInt8.ofNat ((65535-body.length) / 256)).toNat)*256+(255-(UInt8.ofNat (65535-body.length)).toNat)=body.length:=by
  obtain⟨z,hz,hz2⟩:∃z,65535-body.length=z/\z+body.length=65535:=⟨_,rfl,Nb⟩;rw[hz,UInt8.toNat_ofNat',UInt8.toNat_ofNat'];omega
 rw[e];unfold b5;simp only[length_cons,NM,cf,QF,QG];rw[NQ Nb,NQ hk];simp only[hn,hm];rw[NQ Nh,NQ Nb];have d1:drop 5 (k::UInt8.ofNat (body.length / 256)::UInt8.ofNat body.length::UInt8.ofNat ((65535-body.length) / 256)::UInt8.ofNat (65535-body.length)::(body++(be (dz k body) 4++rest)))=body++(be (dz k body) 4++rest):=rfl;rw[<- drop_drop,d1,take_left' rfl,drop_left' rfl,take_left' (cf _ _),ju,Nat.mod_eq_of_lt (nj k body)];simp
theorem dD{b:Bs}{k:UInt8}{body:Bs}{n:Nat}(h:b5 b=some (k,body,n)):k≠0/\n=body.length+9/\n<=b.length/\body=(b.drop 5).take (n-9)/\body.length<65536:=by
 unfold b5 at h;split at h
 ·cases h
 split at h
 ·cases h
 simp only at h;split at h
 ·cases h
 split at h
 ·cases h
 split at h
 ·cases h
 rename_i h1 h2 h3 h4 h5;simp only[NY,Prod.mk.injEq]at h;obtain⟨rfl,rfl,rfl⟩:=h;have:=UInt8.toNat_lt (b.getD 1 0);have:=UInt8.toNat_lt (b.getD 2 0)
 have hl:((b.drop 5).take ((b.getD 1 0).toNat*256+(b.getD 2 0).toNat)).length=(b.getD 1 0).toNat*256+(b.getD 2 0).toNat:=by
  rw[NS,NT,Nat.min_eq_left];omega
 exact⟨h2,by rw[hl],Nat.le_of_not_lt h4,by rw[Nat.add_sub_cancel],by rw[hl];omega⟩
end
section
open Go.RowKit
section
variable {α:Type} (enc:α->Value)
theorem qH{xs ys:List α}{k:Nat}(h:xs.take k=ys.take k)(hx:k<xs.length)(hy:k<ys.length)(he:xs[k]=ys[k]):xs.take (k+1)=ys.take (k+1):=by
 rw[QH hx,QH hy,h,he]
theorem kF{w:World}{a:Option Addr}{xs:List α}(h:ak w a (xs.map enc))(hp:0<xs.length):∃g off,a=some ⟨g,off,none⟩/\∀j (h:j<xs.length),w.cell? ⟨g,off+j,none⟩=some (enc (xs[j]'h)):=by
 obtain⟨g,off,ha,hc⟩:=h (by simpa using hp);exact⟨g,off,ha,fun j hj=>by rw[hc j (by simpa using hj)];simp⟩
end
theorem iD:(prog.info? 5).map (fun i=>(i.zero,i.size,i.bytes))=some (some (.int .u8 0),1,1):=Nc
def aw(l:List UInt8):Array Value:=(l.map am).toArray
theorem ex(l:List UInt8)(j:Nat)(h:j<l.length):(aw l)[j]?=some (am l[j]):=by simp[aw,h]
theorem qD(l:List UInt8)(j:Nat)(x:UInt8):(aw l).setIfInBounds j (am x)=aw (l.set j x):=by
 apply Array.ext';simp[aw,map_set]
end
section
open Go.RowKit
def an(n:Nat):Bs:=replicate n 0
def eJ:Array Value:=aw (an 128)
theorem mx(w:World):(zeroValue 43).run prog w=.ok (.agg eJ) w:=Nc
theorem qF:(prog.info? 43).map (·.size)=some 128:=Nc
theorem JK:(prog.info? 43).map (fun i=>(i.zero,i.size,i.bytes))=some (some (.agg eJ),128,128):=Nc
def pE:Value:=.agg (#[.int .i64 0]++eJ)
theorem IC:(prog.info? 110).map (fun i=>(i.zero,i.size,i.bytes))=some (some pE,129,136):=Nc
theorem jY:pE.cells.size=129:=Nc
theorem dX{w:World}{b:Nat}{l:Bs}{t:TypeId}{fz:Nat×Nat}(h:w.heap[b]?=some (.cells (aw l) t fz))(o n:Nat):w.rangeAt b o (((l.drop o).take n).map am):=fun j v hv=>by
 refine aa h (o+j) ?_
 simp only[aw,getElem?_toArray,getElem?_map]at hv ⊢
 rw[getElem?_take]at hv
 split at hv
 ·rw[getElem?_drop]at hv;exact hv
 ·simp at hv
theorem eT{w:World}{b:Nat}{l:Bs}{t:TypeId}(h:w.heap[b]?=some (.cells (aw l) t (0,0)))(o n:Nat)(hn:o+n<=l.length):w.there b o n:=fun j hj=>by
 rw[aa h (o+j) (ex l (o+j) Nb)]
 exact⟨rfl,aY h _⟩
theorem gT{s:Bs}(h:s.length=128):(prog.info? 43).map (·.size)=some (s.map am).length:=by rw[NP,h];exact qF
theorem gU{s:Bs}(h:s.length=128):(prog.info? 43).map (·.size)=some (aw s).size:=by rw[aw,size_toArray];exact gT h
theorem bL(s:Bs):(aw s).size=s.length:=by simp[aw]
theorem cS(s:Bs):(aw s).all (·.oneCell')=true:=all_oneCell_toArray (dF s)
theorem jD{P:Program}{fn:Func}{p q:Tmp}{ty:TypeId}(h:fn.results=#[.cell p ty,.tmp q])(tmps:Array Value)(w:World)(g:Nat)(t:TypeId)(cs:Array Value)(fr:Nat×Nat)(d:TypeDesc)(hp:tmps.getD p undef=.pointer (some ⟨g,0,none⟩))(hg:w.heap[g]?=some (.cells cs t fr))(hu:P.underlying ty=some d)(hd:(match d with|.struct _|.array _ _=>true|_=>false)=true)(hi:(P.info? ty).map (·.size)=some cs.size):
  (results fn tmps).run P w=.ok (.tuple #[.agg cs,tmps.getD q undef]) w:=by
 have hp':tmps[p]?.getD undef=.pointer (some ⟨g,0,none⟩):=by simpa using hp
 simp[results,h,hp',asAddr,run_loadVar_row w g t ty cs fr d hg hu hd hi]
def ba(l:Bs)(o:Nat)(s:Bs):Bs:=l.take o++s++l.drop (o+s.length)
theorem jN{l s:Bs}{o:Nat}(h:o+s.length<=l.length):(ba l o s).length=l.length:=by simp[ba];omega
theorem mi{w:World}{b:Nat}{l:Bs}{t:TypeId}(h:w.heap[b]?=some (.cells (aw l) t (0,0)))(o:Nat)(s:Bs)(hn:o+s.length<=l.length):
  (w.setCells b o (s.map am)).heap[b]?=some (.cells (aw (ba l o s)) t (0,0))/\N7 (fun k=>k=b) w (w.setCells b o (s.map am)):=by
 induction s generalizing w l o with
 | nil=>exact⟨by simpa[World.setCells,ba]using h,by simpa[World.setCells]using N7.refl _ w⟩
 | cons x r ih =>
  simp only[map_cons,World.setCells];simp only[length_cons]at hn;have h1:=bq h o (am x);rw[qD]at h1;obtain⟨h2,h3⟩:=ih h1 (o+1) (by rw[length_set];omega);refine⟨h2.trans ?_,((N7.refl (fun k=>k=b) w).set1 (am x)).trans h3⟩;congr 3;obtain⟨A,y,B,rfl,rfl⟩:∃A y B,l=A++y::B/\A.length=o:=⟨l.take o,l[o],l.drop (o+1),by rw[<- drop_eq_getElem_cons,take_append_drop],Nj⟩;unfold ba;rw[set_append_right _ _ (Nat.le_refl _),Nat.sub_self,QB,take_append,take_append,drop_append,drop_append];simp only[take_of_length_le (show A.length<=A.length+1 by omega),show A.length+1-A.length=1 by omega,Nat.sub_self,take_length,take_zero,append_nil,length_cons];rw[drop_of_length_le (show A.length<=A.length+1+r.length by omega),drop_of_length_le (show A.length<=A.length+(r.length+1) by omega),show A.length+1+r.length-A.length=r.length+1 by omega,show A.length+(r.length+1)-A.length=r.length+1 by omega];simp
theorem dr{w:World}{b:Nat}{l s:Bs}{t:TypeId}(h:w.heap[b]?=some (.cells (aw l) t (0,0)))(hs:s.length=l.length):
  (w.setCells b 0 (s.map am)).heap[b]?=some (.cells (aw s) t (0,0))/\N7 (fun k=>k=b) w (w.setCells b 0 (s.map am)):=by
 obtain⟨h1,h2⟩:=mi h 0 s Nb;refine⟨h1.trans ?_,h2⟩;congr 3;simp[ba,hs]
theorem cC{P:Program}{ops:Array Oper}{w:World}{Q:Act->Prop}{a:Act}{op:Oper}{rest:List Oper}(hgd:op.guard=none)(ty:TypeId)(x:Operand)(ho:op.op=.load ty x)(b o:Nat)(hx:a.eval x=.pointer (some ⟨b,o,none⟩))(cs:List Value)(d:TypeDesc)(hc:w.rangeAt b o cs)(hu:P.underlying ty=some d)(hd:d.isRow=true)(hi:(P.info? ty).map (·.size)=some cs.length)(h:wpStill P ops w Q rest (a.put op.dst (.agg cs.toArray))):wpStill P ops w Q (op::rest) a:=by
 refine wpStill_step (fun K hK=>?_);have hw:Region.wanted op (yielded ops a.tmps)=true:=by simp[Region.wanted,hgd]
 rw[NR hw];unfold Oper.still execOp;simp only[ho,hx,Instr.loadAt,Instr.sureAddr,Sem.run_bind,Sem.run_pure,Result.andThen_ok,run_loadVar_mid w b o ty cs d hc hu hd hi,Oper.stillUpon];exact⟨trivial,hK _ h⟩
theorem jQ{P:Program}{o:Oper}{a:Act}{w:World}{K:Act->World->Prop}{Q:Exit->Act->World->Prop}(s x:Operand)(t:TypeId)(hop:o.op=Op.call { callee:=Callee.builtin Builtin.append,args:=#[s,x],argTypes:=#[t,t] })(e:TypeId)(i:TypeInfo)(z:Value)(size bytes:Nat)(h1:P.underlying t=some (.slice e))(h2:P.info? e=some i)(h3:i.zero=some z)(h4:i.size=size)(h5:i.bytes=bytes)(h6:z.cells.size=size)(h7:0<size)(v:Value)(k:Nat)(xs:List Value)(hs:a.eval s=v)(hown:w.ownsRow 0 e size v k xs)(ad:Addr)(m c:Nat)(news:List Value)(hx:a.eval x=.slice (some ad) m c)(hn:news.length=m*size)(hc:∀j u,news[j]?=some u->w.cell? (ad.add j)=some u)(h1c:∀u∈news,u.oneCell'=true)(b1:k+m<=maxLen)(b2:(k+m)*bytes<=140737488355328)(hK:∀v' w',w'.ownsRow 0 e size v' (k+m) (xs++news)->w.grownBy w' v.ownBlock->(∀g,v'.ownBlock=some g->v.ownBlock=some g\/w.heap.size<=g)->K (a.put o.dst v') w'):
  Oper.wp P o a w K Q:=by
 obtain⟨v',w',hrun,r1,r2,r3,r4⟩:=jq (P:=P) w t o.type e i z size bytes h1 h2 h3 h4 h5 h6 h7 v k xs hown ad m c news hn hc h1c b1 b2;unfold Oper.wp;simp[execOp,hop,resolve,invoke,builtin,hs,hx,hrun,Result.andThen];exact hK v' w' r1 r2 r4
def spl(l:List Value)(o:Nat)(v:List Value):List Value:=l.take o++v++l.drop (o+v.length)
theorem jT(place:Nat->Option (Nat×Nat))(cells:List Value)(i:Nat)(v:Value)(off size:Nat)(rest:List (Nat×Value))(hp:place i=some (off,size))(hs:v.cells.size=size)(hfit:off+size<=cells.length):
  Instr.fill place cells.toArray ((i,v)::rest)=Instr.fill place (spl cells off v.cells.toList).toArray rest:=by
 subst hs;simp only[Instr.fill,hp];rw[NQ Nj];congr 1;rw[<- Array.foldl_toList,Array.toList_zipIdx];obtain⟨h1,h2⟩:=Great.foldl_set off v.cells.toList 0 cells.toArray;apply Array.ext_getElem?;intro k;rw[h2 k];simp only[getElem?_toArray,size_toArray,Nat.add_zero,Array.length_toList,spl,NV];rcases Nat.lt_or_ge k off with hk|hk
 ·rw[NQ Nb,getElem?_append_left Nj,getElem?_take_of_lt hk]
 ·rw[getElem?_append_right Nj];simp only[NS];rw[show min off cells.length=off by omega];rcases Nat.lt_or_ge k (off+v.cells.size)with hk2|hk2
  ·rw[NR Nb,getElem?_append_left Nj]
  ·rw[NQ Nb,getElem?_append_right Nj,getElem?_drop];congr 1;simp;omega
theorem JN(Z R:List Value)(x:Value)(h:Z.length=R.length+1):spl (spl Z 0 [x]) 1 R=x::R:=by
 cases Z with
 | nil=>simp at h
 | cons z Z =>
  have h':Z.length<=R.length:=by simp at h;omega
  simp[spl,Nat.add_comm 1,h']
theorem FH(a:Int)(s:Bs)(hs:s.length=128):prog.built 110 [(0,.int .i64 a),(1,.agg (aw s))]=some (.int .i64 a::s.map am).toArray:=by
 have e:prog.built 110 [(0,.int .i64 a),(1,.agg (aw s))]=Instr.fill (#[(0,1),(1,128)][·]?) (pE.cells.toList).toArray [(0,.int .i64 a),(1,.agg (aw s))]:=Nc
 have hz:pE.cells.toList.length=129:=jY;rw[e];generalize pE.cells.toList=Z at hz ⊢;have h8:(Value.agg (aw s)).cells.toList=s.map am:=by simp[Value.cells,aw]
 have hl:(s.map am).length=128:=by simpa using hs
 have h1:(spl Z 0 [Value.int IntKind.i64 a]).length=129:=by simp[spl];omega
 rw[jT _ _ 0 _ 0 1 _ rfl rfl Nb];show Instr.fill _ (spl Z 0 [Value.int IntKind.i64 a]).toArray _=_;rw[jT _ _ 1 _ 1 128 _ rfl (by simp[Value.cells,aw,hs]) Nb,h8,JN Z _ _ Nb];rfl
theorem kV{P:Program}{o:Oper}{a:Act}{w:World}{K:Act->World->Prop}{Q:Exit->Act->World->Prop}(t:TypeId)(parts:Array (Nat×Operand))(ho:o.op=.build t parts)(cells:Array Value)(hc:P.built t (parts.map fun(i,x)=>(i,a.eval x)).toList=some cells)(h:K (a.put o.dst (.agg cells)) w):o.wp P a w K Q:=by
 unfold Oper.wp execOp;simp only[ho,Sem.run_bind,run_build w t _ cells hc,Result.andThen_ok];exact h
theorem GL(cs:List Value)(hcs:cs.length=129)(n m:Nat)(hn:n=129)(hm:m=129)(Z:Array Value):Instr.fill (fun i=>some (i*n,n)) ((Array.range (1*n)).map (Z[·%m]!)) [(0,.agg cs.toArray)]=some cs.toArray:=by
 subst hn;subst hm;have hf:=Great.fill_whole (s:=129) Nb [Value.agg cs.toArray] ((Array.range (1*129)).map (Z[·%129]!)) (fun v hv=>by simp at hv;subst hv;simpa[Value.cells]using hcs) Nh;simpa[Value.cells]using hf
structure Ol where
 n:Nat
 sb:Nat
 nb:Nat
 chv:Value
 safe:Bs
 now:Bs
 N8:List (Nat×Bs)
def bI(l:List (Nat×Bs)):List Value:=l.flatMap fun c=>Value.int .i64 c.1::c.2.map am
def aA(d:Nat)(L:Ol):HF :=
 (d,Is (.cells #[.slice (some ⟨L.sb,0,none⟩) L.n L.n,.slice (some ⟨L.nb,0,none⟩) L.n L.n,L.chv,.int .i64 (-1)] 105 (0,0))) ::
 (L.nb,Is (.cells (aw L.now) 43 (0,0))) ::
 (L.sb,Is (.cells (aw L.safe) 43 (0,0))) ::
 bH 110 129 L.chv L.N8.length (bI L.N8)
def jh(s:Bs)(l:List (Nat×Bs)):Bs:=l.foldl (fun s c=>ba s (128*c.1) c.2) s
structure Ou (L:Ol):Prop where
 hn:L.n<=1099511627776
 Ut:L.safe.length=128*L.n
 OU:L.now.length=128*L.n
 row:ei 129 L.chv L.N8.length (bI L.N8)
 N8:∀c∈L.N8,c.1<L.n/\c.2.length=128
 now:jh L.safe L.N8=L.now
theorem fw{w:World}{d:Nat}{L:Ol}{R:HF}(h:Sat w (aA d L++R)):w.heap[d]?=some (.cells #[.slice (some ⟨L.sb,0,none⟩) L.n L.n,.slice (some ⟨L.nb,0,none⟩) L.n L.n,L.chv,.int .i64 (-1)] 105 (0,0)):=by
 exact h.Q5
theorem qc{w:World}{d:Nat}{L:Ol}{R:HF}(h:Sat w (aA d L++R)):w.heap[L.nb]?=some (.cells (aw L.now) 43 (0,0)):=by
 exact h.tail.Q5
theorem wY{w:World}{d:Nat}{L:Ol}{R:HF}(h:Sat w (aA d L++R)):w.heap[L.sb]?=some (.cells (aw L.safe) 43 (0,0)):=by
 exact h.tail.tail.Q5
def aN(l:Bs)(at_:Nat):Bs:=(l.drop (128*at_)).take 128
theorem gz{l:Bs}{n at_:Nat}(h:l.length=128*n)(ha:at_<n):(aN l at_).length=128:=by simp[aN];omega
theorem Av{d:Nat}{L:Ol}{w w':World}{now':Bs}(h:Sat w (aA d L))(hm:N7 (fun k=>k=L.nb) w w')(hn:w'.heap[L.nb]?=some (.cells (aw now') 43 (0,0))):Turns (aA d L) (aA d { L with now:=now' }) w w' :=
 ((Turns.refl (h.perm (Perm.swap _ _ _))).Qa hm hn).perm (Perm.swap _ _ _) (Perm.swap _ _ _)
theorem yy{d:Nat}{L:Ol}{w w':World}{Xy:Bs}(h:Sat w (aA d L))(hm:N7 (fun k=>k=L.sb) w w')(hn:w'.heap[L.sb]?=some (.cells (aw Xy) 43 (0,0))):Turns (aA d L) (aA d { L with safe:=Xy }) w w':=by
 have p:∀(a b c:Nat×(Obj->Prop)) (l:HF),(a::b::c::l).Perm (c::a::b::l):=fun a b c l=>((Perm.swap _ _ _).cons a).trans (Perm.swap _ _ _)
 exact((Turns.refl (h.perm (p _ _ _ _))).Qa hm hn).perm (p _ _ _ _).symm (p _ _ _ _).symm
theorem Au{d:Nat}{L:Ol}{w w1 w2:World}{v':Value}{Qv:List (Nat×Bs)}(h:Sat w (aA d L))(hown:w1.ownsRow 0 110 129 v' Qv.length (bI Qv))(hgrow:w.grownBy w1 L.chv.ownBlock)(hg:∀g,v'.ownBlock=some g->L.chv.ownBlock=some g\/w.heap.size<=g)(hm:N7 (fun k=>k=d) w1 w2)(hd:w2.heap[d]?=some (.cells #[.slice (some ⟨L.sb,0,none⟩) L.n L.n,.slice (some ⟨L.nb,0,none⟩) L.n L.n,v',.int .i64 (-1)] 105 (0,0))):
  Turns (aA d L) (aA d { L with chv:=v',N8:=Qv }) w w2:=by
 have p:∀(a b c:Nat×(Obj->Prop)) (l:HF),(a::b::c::l).Perm (l++[a,b,c]):=fun a b c l=>by
  have:(a::b::c::l)=[a,b,c]++l:=rfl;rw[this];exact perm_append_comm
 have h1:Turns (aA d L) _ w w1:=((Turns.refl (h.perm (p _ _ _ _))).grow hown hgrow hg).perm (p _ _ _ _).symm (p _ _ _ _).symm;exact h1.Qa hm hd
theorem pX(l:List (Nat×Bs))(c:Nat×Bs):bI (l++[c])=bI l++(.int .i64 c.1::c.2.map am):=by simp[bI]
theorem pP(s:Bs)(l:List (Nat×Bs))(c:Nat×Bs):jh s (l++[c])=ba (jh s l) (128*c.1) c.2:=by simp[jh]
def J8(w:World)(e:Ending)(w':World):Prop:=e=.returned (.bool false)/\w=w'
theorem rq(d:Nat)(L:Ol)(w:World)(h:Sat w (aA d L)):Calls prog 48 #[.pointer (some ⟨d,0,none⟩)] w (J8 w):=by
 have hd:=fw (R:=[]) (by simpa using h);have c3:=aa hd 3 (v:=.int .i64 (-1)) Nh;have H:=Ob h hd;clear h hd;go_enter func48,ntmps48;go_wp2;go_ret;exact⟨rfl,rfl⟩
def zK(n:Nat)(w:World)(e:Ending)(w':World):Prop:=e=.returned (.int .i64 n)/\w=w'
theorem jg(d:Nat)(L:Ol)(w:World)(h:Sat w (aA d L)):Calls prog 16 #[.pointer (some ⟨d,0,none⟩)] w (zK L.n w):=by
 have hd:=fw (R:=[]) (by simpa using h);have c0:=aa hd 0 (v:=.slice (some ⟨L.sb,0,none⟩) L.n L.n) Nh;have H:=Ob h hd;clear h hd;go_enter func16,ntmps16;go_wp2;go_ret;exact⟨rfl,rfl⟩
def j0(L:Ol)(at_:Nat)(w:World)(e:Ending)(w':World):Prop :=
 e=.returned (.tuple #[.agg (aw (aN L.now at_)),.nilIface])/\aV w w'
theorem j5(d:Nat)(L:Ol)(at_:Nat)(w:World)(h:Sat w (aA d L))(hL:Ou L)(ha:at_<L.n):
  Calls prog 17 #[.pointer (some ⟨d,0,none⟩),.int .i64 at_] w (j0 L at_ w):=by
 have hn:=hL.hn;have hd:=fw (R:=[]) (by simpa using h);have OY:=qc (R:=[]) (by simpa using h);have c0:=aa hd 0 (v:=.slice (some ⟨L.sb,0,none⟩) L.n L.n) Nh;have c1:=aa hd 1 (v:=.slice (some ⟨L.nb,0,none⟩) L.n L.n) Nh;have HO:=NZ (fun W (hs:aV w W)=>rq d L W (h.same hs));have hz:=mx;have g1:decide ((at_:Int)<0)=false:=Nh
 have g2:decide (L.n<=at_)=false:=Nj
 have hdl:d<w.heap.size:=ae hd;have H:=OW h hd hL OY;clear h hd hL OY;go_enter func17,ntmps17;go_wp2_with fail;refine(HO.o _ (((N7.refl _ w).alloc _).alloc _)).mono ?_;rintro e w1 ⟨rfl,rfl⟩;have hsl:=gz H.c.OU ha;have HR:=NZ hsl;clear hsl;go_wp2_with (first|(refine wpList_load_mid rfl 43 (.tmp 35) rfl L.nb (at_*128) rfl ((aN L.now at_).map am) _ ?c1 underlying43 rfl (gT HR.o) ?_)|(refine wpList_store_mid rfl 43 (.tmp 4) (.tmp 36) rfl w.heap.size 0 (aw (aN L.now at_)) rfl rfl ?c2 (gU HR.o) (cS _) ?_))
 case c1=>rw[Nat.mul_comm];exact World.rangeAt_alloc (World.rangeAt_alloc (dX H.x _ _) _) _
 all_goals have hw0:((w.alloc (Obj.cells eJ 43)).alloc (Obj.cells eJ 43)).heap[w.heap.size]?=some (.cells (aw (an 128)) 43 (0,0)):=(dZ Nh).trans (aM w _)
 case c2=>exact eT hw0 0 _ (by rw[bL,HR.o];simp[an])
 obtain⟨h1,h2⟩:=dr hw0 (s:=aN L.now at_) (by rw[HR.o];simp[an]);refine bodyPost_ret (jD rfl _ _ w.heap.size 43 (aw (aN L.now at_)) (0,0) _ rfl h1 underlying43 rfl (gU HR.o)) rfl ⟨rfl,?_⟩;exact(((N7.refl _ w).alloc _).alloc _).trans' h2 (fun i hi=>.inr Nb)
def jS(d:Nat)(L:Ol)(at_:Nat)(s:Bs)(w:World)(e:Ending)(w':World):Prop :=
 e=.returned .nilIface/\∃L',Turns (aA d L) (aA d L') w w'/\Ou L'/\L'.n=L.n/\L'.now=ba L.now (128*at_) s/\L'.N8.length=L.N8.length+1
theorem ie(d:Nat)(L:Ol)(at_:Nat)(s:Bs)(w:World)(h:Sat w (aA d L))(hL:Ou L)(ha:at_<L.n)(hs:s.length=128)(hc:L.N8.length<=274877906944):
  Calls prog 18 #[.pointer (some ⟨d,0,none⟩),.int .i64 at_,.agg (aw s)] w (jS d L at_ s w):=by
 have hn:=hL.hn;have hd:=fw (R:=[]) (by simpa using h);have OY:=qc (R:=[]) (by simpa using h);have c0:=aa hd 0 (v:=.slice (some ⟨L.sb,0,none⟩) L.n L.n) Nh;have c1:=aa hd 1 (v:=.slice (some ⟨L.nb,0,none⟩) L.n L.n) Nh;have c2:=aa hd 2 (v:=L.chv) Nh;have f2:=aY hd 2;have hdl:d<w.heap.size:=ae hd;have HO:=NZ (fun W (hs:aV w W)=>rq d L W (h.same hs));have g1:decide ((at_:Int)<0)=false:=Nh
 have g2:decide (L.n<=at_)=false:=Nj
 have H:=PD h hd hL OY hs;clear h hd hL OY hs;go_enter func18,ntmps18;go_wp2_with fail;refine(HO.o _ (((N7.refl _ w).alloc _))).mono ?_;rintro e w1 ⟨rfl,rfl⟩;go_wp2_with fail;have hw1:=aM w (.cells (aw s) 43);have hs1:aV w (w.alloc (.cells (aw s) 43)):=(N7.refl _ w).alloc _;have hsz:(w.alloc (.cells (aw s) 43)).heap.size=w.heap.size+1:=Nh
 generalize hB:w.heap.size=B at hw1 hsz hdl ⊢;generalize w.alloc (.cells (aw s) 43)=w1 at hw1 hs1 hsz ⊢;have HB:=Oz hB hw1 hs1;have HS:=NZ (H.a.same hs1);clear hB hw1 hs1 c0 c1 c2 f2 HO;have c1:=aa (fw (R:=[]) (by simpa using HS.o)) 1 (v:=.slice (some ⟨L.nb,0,none⟩) L.n L.n) Nh;have hm:prog.follows .mixedOrders=true:=Nc
 have HM:=NZ hm;clear hm;refine wp_region_still_tail 7 HM.o Nc ?_;simp only[QE,take_zero,QD,drop_zero];repeat still_step
 refine cC rfl 43 (.tmp 5) rfl B 0 rfl (s.map am) _ (by have:=dX HB.b 0 128;rwa [drop_zero,take_of_length_le (by have:=H.w;omega)]at this) underlying43 rfl (gT H.w) ?_;repeat still_step
 refine wpStill_nil ?_;change wpList _ _ _ _ _ w1.drew;go_wp2_with (refine wpList_store_mid rfl 43 (.tmp 34) (.tmp 33) rfl L.nb (at_*128) (aw s) rfl rfl ?c2 (gU H.w) (cS _) ?_)
 case c2=>exact(World.there_drew _ _ _ _).2 (eT (qc (R:=[]) (by simpa using HS.o)) _ _ (by rw[bL,H.c.OU,H.w];omega))
 obtain⟨hp1,hp2⟩:=mi (w:=w1.drew) (qc (w:=w1) (d:=d) (R:=[]) (by simpa using HS.o)) (at_*128) s (by rw[H.c.OU,H.w];omega);have hT2:=(Turns.Qg H.a HB.y ((Turns.refl HS.o).drew)).trans (Av (HS.o.same ((N7.refl _ w1).drew)) hp2 hp1);have hb2:(w1.drew.setCells L.nb (at_*128) (s.map am)).heap[B]?=some (.cells (aw s) 43 (0,0)):=hp2.at HB.b (fun e=>by have:=HS.o.lt (b:=L.nb) (by simp[aA]);have h0:=H.a.lt (b:=L.nb) (by simp[aA]);rw[HB.a]at h0;omega);show Code.wp _ _ _ _ (w1.drew.setCells L.nb (at_*128) (s.map am));refine wp_region_any HM.o ?_;change wpAny _ _ _ _ _ _ _ (World.drew _);have Oa:=hT2.drew;have hb3:((w1.drew.setCells L.nb (at_*128) (s.map am)).drew).heap[B]?=_:=hb2;generalize (w1.drew.setCells L.nb (at_*128) (s.map am)).drew=w2 at Oa hb3 ⊢;clear hp1 hp2 hT2 hb2;have hd2:=fw (R:=[]) (by simpa using Oa.sat);have c2:=aa hd2 2 (v:=L.chv) Nh;have f2:=aY hd2 2;have V8:d<w2.heap.size:=ae hd2;have HRG:=NZ (by have:=dX (w:=w2) hb3 0 128;rwa [drop_zero,take_of_length_le (by have:=H.w;omega)]at this);obtain⟨i0,hi0,hz1,hz2,hz3⟩:=info_parts IC;have HBD:Hid (prog.built 110 [(0,.int .i64 at_),(1,.agg (s.map am).toArray)]=some (.int .i64 at_::s.map am).toArray):=NZ (FH at_ s H.w)
 have HSL:Hid (¬1*i0.size>2 ^ 24/\¬1*i0.size=0/\Instr.fill (fun i=>some (i*i0.size,i0.size)) ((Array.range (1*i0.size)).map (pE.cells[·%pE.cells.size]!)) [(0,.agg (.int .i64 at_::s.map am).toArray)]=some (.int .i64 at_::s.map am).toArray) :=
  NZ ⟨by rw[hz2];omega,by rw[hz2];omega,GL _ (by simp[H.w]) _ _ hz2 jY _⟩
 have HI:=OW hi0 hz1 hz2 hz3;have hcl:(Value.int .i64 at_::s.map am).length=1*129:=by simp[H.w]
 have h1c:∀u∈(Value.int .i64 at_::s.map am),u.oneCell'=true:=fun u hu=>by
  rcases mem_cons.1 hu with rfl|hu
  ·rfl
  ·exact dF s u hu
 have hnc:∀j u,(Value.int .i64 at_::s.map am)[j]?=some u->(w2.alloc (.cells (Value.int .i64 at_::s.map am).toArray 110)).cell? ((⟨w2.heap.size,0,none⟩:Addr).add j)=some u:=fun j u hu=>by
  rw[Addr.add_mid,Nat.zero_add];exact aa (aM w2 _) j (by simpa using hu)
 obtain⟨nw,hnw⟩:=Na (w2.alloc (.cells (Value.int .i64 at_::s.map am).toArray 110));have Oj:Turns (aA d L) (aA d { L with now:=ba L.now (at_*128) s }) w nw:=by rw[hnw];exact Oa.alloc _
 have HW:Hid (True/\(w2.alloc (.cells (Value.int .i64 at_::s.map am).toArray 110)).ownsRow 0 110 129 L.chv L.N8.length (bI L.N8)):=NZ ⟨trivial,by rw[<- hnw];exact aW Oj.sat.tail.tail.tail H.c.row⟩;have HA:=Oz hcl hnc h1c
 have HD:Hid (∀v' w3,World.ownsRow w3 0 110 129 v' (L.N8.length+1) (bI L.N8++(Value.int .i64 at_::s.map am))->World.grownBy (w2.alloc (.cells (Value.int .i64 at_::s.map am).toArray 110)) w3 L.chv.ownBlock->(∀g,v'.ownBlock=some g->L.chv.ownBlock=some g\/(w2.alloc (.cells (Value.int .i64 at_::s.map am).toArray 110)).heap.size<=g)->w3.heap[d]?=some (.cells #[.slice (some ⟨L.sb,0,none⟩) L.n L.n,.slice (some ⟨L.nb,0,none⟩) L.n L.n,L.chv,.int .i64 (-1)] 105 (0,0))/\jS d L at_ s w (.returned .nilIface) (w3.setCell ⟨d,2,none⟩ v')):=NZ (by
  rw[<- hnw];intro v' w3 hown hgrow hg;have hd4:=fw (R:=[]) (by simpa using Oj.sat)
  have hd3:=(N7.Qm hgrow).at hd4 (fun e=>by
   have h1:=Oj.sat.nodup
   have h2:d∉dom (bH 110 129 L.chv L.N8.length (bI L.N8)):=fun hm=>by
    have:=Oj.sat.notMem;exact this (by simp only[gL,mem_cons];exact .inr (.inr hm))
   exact h2 ((eL _ _ _ _ _ _).2 e))
  refine⟨hd3,rfl,{ L with now:=ba L.now (at_*128) s,chv:=v',N8:=L.N8++[(at_,s)] },?_,?_,rfl,by rw[Nat.mul_comm],Nh⟩
  ·refine Oj.trans (Au (v':=v') (Qv:=L.N8++[(at_,s)]) Oj.sat ?_ hgrow hg ((N7.refl _ w3).set1 v') ((bq hd3 2 v').trans Nh));rw[pX,NM];exact hown
  ·have hL:=H.c;have hs:=H.w;refine⟨hL.hn,hL.Ut,by rw[jN (by rw[hL.OU,hs];omega)];exact hL.OU,?_,?_,?_⟩
   ·have:=(fe hown).2;rw[pX,NM];exact this
   ·intro c hc;rcases mem_append.1 hc with hc|hc
    ·exact hL.N8 c hc
    ·simp at hc;subst hc;exact⟨ha,hs⟩
   ·show jh L.safe (L.N8++[(at_,s)])=_;rw[pP,hL.now,Nat.mul_comm])
 clear hi0 hz1 hz2 hz3 Oa hd2 hb3 c1 hcl hnc h1c Oj hnw;refine wpAny_take (i:=0) (v:=?_) rfl Nc Nc Nc (fun _ _ _ h=>h) (Or.inl ⟨by rfl,?_⟩) ?_;rotate_left
 ·intro w;go_simp;try (with_reducible rfl)
 refine wpAny_take (i:=1) (v:=?_) rfl Nc Nc Nc (fun _ _ _ h=>h) (Or.inl ⟨by rfl,?_⟩) ?_;rotate_left
 ·intro w;go_simp;try (with_reducible rfl)
 refine wpAny_take (i:=2) (v:=?_) rfl Nc Nc Nc (fun _ _ _ h=>h) (Or.inl ⟨by rfl,?_⟩) ?_;rotate_left
 ·intro w;go_simp;try (with_reducible rfl)
 refine wpAny_take (i:=3) (v:=?_) rfl Nc Nc Nc (fun _ _ _ h=>h) (Or.inl ⟨by rfl,?_⟩) ?_;rotate_left
 ·intro w;go_simp;try (with_reducible rfl)
 refine wpAny_take (i:=5) (v:=?_) rfl Nc Nc Nc (fun _ _ _ h=>h) (Or.inl ⟨by rfl,?_⟩) ?_;rotate_left
 ·intro w;go_simp;try (with_reducible rfl)
 refine wpAny_ready (rs:=[4,6]) Nc Nh ?_;refine AllReady.cons rfl (fun K hK=>?_) ?_
 ·go_simp;refine hK _ _ ?_;clear hK K;refine wpAny_ready (rs:=[6]) Nc Nh ?_;refine AllReady.cons rfl (fun K hK=>?_) ?_
  ·simp only[getElem_toArray,getElem_cons_succ,getElem_cons_zero];rw[NR Nq];refine wp_load_mid 43 (.tmp 5) rfl B 0 rfl (s.map am) _ HRG.o underlying43 rfl (gT H.w) ?_;simp only[Act.put,QA,QB,QC];refine hK _ _ ?_;clear hK K;refine wpAny_ready (rs:=[7]) Nc Nh ?_;refine AllReady.cons rfl (fun K hK=>?_) ?_
   ·simp only[getElem_toArray,getElem_cons_succ,getElem_cons_zero];rw[NR Nq];refine kV 110 _ rfl (Value.int .i64 (at_:Int)::s.map am).toArray (by simp only[map_toArray,map_cons,map_nil];exact HBD.o) ?_;simp only[Act.put,QA,QB,QC];refine hK _ _ ?_;clear hK K;refine wpAny_ready (rs:=[8]) Nc Nh ?_;refine AllReady.cons rfl (fun K hK=>?_) ?_
    ·simp only[getElem_toArray,getElem_cons_succ,getElem_cons_zero];rw[NR Nq];refine wp_buildSlice 103 110 1 _ rfl (Value.int .i64 (at_:Int)::s.map am).toArray i0 pE underlying103 HI.a HI.b HSL.a HSL.b (by simp only[map_toArray,map_cons,map_nil];exact HSL.y) ?_;simp only[Act.put,QA,QB,QC];refine hK _ _ ?_;clear hK K;refine wpAny_ready (rs:=[9]) Nc Nh ?_;refine AllReady.cons rfl (fun K hK=>?_) ?_
     ·simp only[getElem_toArray,getElem_cons_succ,getElem_cons_zero];rw[NR Nq];refine jQ (.tmp 39) (.tmp 43) 103 rfl 110 i0 pE 129 136 underlying103 HI.a HI.b HI.c HI.x jY Nk L.chv L.N8.length (bI L.N8) rfl HW.z ⟨w2.heap.size,0,none⟩ 1 1 (Value.int .i64 (at_:Int)::s.map am) rfl HA.a HA.b HA.y (by unfold maxLen;omega) Nb ?_;intro v' w3 hown hgrow hg;obtain⟨g',cap',rfl⟩:=ownsRow_succ hown;have hd3:=HD.o _ w3 hown hgrow hg;have c3:=aa hd3.1 2 (v:=L.chv) Nh;have f3:=aY hd3.1 2;have HF:=NZ hd3;clear hd3 hown hgrow hg;simp only[Act.put,QA,QB,QC];refine hK _ _ ?_;clear hK K;refine wpAny_take (i:=10) (v:=?_) rfl Nc Nc Nc (fun _ _ _ h=>h) (Or.inl ⟨by rfl,?_⟩) ?_;rotate_left
      ·intro w;go_simp;try (with_reducible rfl)
      refine wpAny_take (i:=11) (v:=?_) rfl Nc Nc Nc (fun _ _ _ h=>h) (Or.inl ⟨by rfl,?_⟩) ?_;rotate_left
      ·intro w;go_simp;try (with_reducible rfl)
      refine wpAny_ready (rs:=[12]) Nc Nh ?_;refine AllReady.cons rfl (fun K hK=>?_) ?_
      ·go_simp;refine hK _ _ ?_;clear hK K;refine wpAny_done Nc ?_ _;go_wp2;go_ret;exact HF.z
      exact AllReady.nil
     exact AllReady.nil
    exact AllReady.nil
   exact AllReady.nil
  exact AllReady.nil
 refine AllReady.cons rfl (fun K hK=>?_) ?_
 ·simp only[getElem_toArray,getElem_cons_succ,getElem_cons_zero];rw[NR Nq];refine wp_load_mid 43 (.tmp 5) rfl B 0 rfl (s.map am) _ HRG.o underlying43 rfl (gT H.w) ?_;simp only[Act.put,QA,QB,QC];refine hK _ _ ?_;clear hK K;refine wpAny_ready (rs:=[4,7]) Nc Nh ?_;refine AllReady.cons rfl (fun K hK=>?_) ?_
  ·go_simp;refine hK _ _ ?_;clear hK K;refine wpAny_ready (rs:=[7]) Nc Nh ?_;refine AllReady.cons rfl (fun K hK=>?_) ?_
   ·simp only[getElem_toArray,getElem_cons_succ,getElem_cons_zero];rw[NR Nq];refine kV 110 _ rfl (Value.int .i64 (at_:Int)::s.map am).toArray (by simp only[map_toArray,map_cons,map_nil];exact HBD.o) ?_;simp only[Act.put,QA,QB,QC];refine hK _ _ ?_;clear hK K;refine wpAny_ready (rs:=[8]) Nc Nh ?_;refine AllReady.cons rfl (fun K hK=>?_) ?_
    ·simp only[getElem_toArray,getElem_cons_succ,getElem_cons_zero];rw[NR Nq];refine wp_buildSlice 103 110 1 _ rfl (Value.int .i64 (at_:Int)::s.map am).toArray i0 pE underlying103 HI.a HI.b HSL.a HSL.b (by simp only[map_toArray,map_cons,map_nil];exact HSL.y) ?_;simp only[Act.put,QA,QB,QC];refine hK _ _ ?_;clear hK K;refine wpAny_ready (rs:=[9]) Nc Nh ?_;refine AllReady.cons rfl (fun K hK=>?_) ?_
     ·simp only[getElem_toArray,getElem_cons_succ,getElem_cons_zero];rw[NR Nq];refine jQ (.tmp 39) (.tmp 43) 103 rfl 110 i0 pE 129 136 underlying103 HI.a HI.b HI.c HI.x jY Nk L.chv L.N8.length (bI L.N8) rfl HW.z ⟨w2.heap.size,0,none⟩ 1 1 (Value.int .i64 (at_:Int)::s.map am) rfl HA.a HA.b HA.y (by unfold maxLen;omega) Nb ?_;intro v' w3 hown hgrow hg;obtain⟨g',cap',rfl⟩:=ownsRow_succ hown;have hd3:=HD.o _ w3 hown hgrow hg;have c3:=aa hd3.1 2 (v:=L.chv) Nh;have f3:=aY hd3.1 2;have HF:=NZ hd3;clear hd3 hown hgrow hg;simp only[Act.put,QA,QB,QC];refine hK _ _ ?_;clear hK K;refine wpAny_take (i:=10) (v:=?_) rfl Nc Nc Nc (fun _ _ _ h=>h) (Or.inl ⟨by rfl,?_⟩) ?_;rotate_left
      ·intro w;go_simp;try (with_reducible rfl)
      refine wpAny_take (i:=11) (v:=?_) rfl Nc Nc Nc (fun _ _ _ h=>h) (Or.inl ⟨by rfl,?_⟩) ?_;rotate_left
      ·intro w;go_simp;try (with_reducible rfl)
      refine wpAny_ready (rs:=[12]) Nc Nh ?_;refine AllReady.cons rfl (fun K hK=>?_) ?_
      ·go_simp;refine hK _ _ ?_;clear hK K;refine wpAny_done Nc ?_ _;go_wp2;go_ret;exact HF.z
      exact AllReady.nil
     exact AllReady.nil
    exact AllReady.nil
   exact AllReady.nil
  refine AllReady.cons rfl (fun K hK=>?_) ?_
  ·simp only[getElem_toArray,getElem_cons_succ,getElem_cons_zero];rw[NR Nq];refine kV 110 _ rfl (Value.int .i64 (at_:Int)::s.map am).toArray (by simp only[map_toArray,map_cons,map_nil];exact HBD.o) ?_;simp only[Act.put,QA,QB,QC];refine hK _ _ ?_;clear hK K;refine wpAny_ready (rs:=[4,8]) Nc Nh ?_;refine AllReady.cons rfl (fun K hK=>?_) ?_
   ·go_simp;refine hK _ _ ?_;clear hK K;refine wpAny_ready (rs:=[8]) Nc Nh ?_;refine AllReady.cons rfl (fun K hK=>?_) ?_
    ·simp only[getElem_toArray,getElem_cons_succ,getElem_cons_zero];rw[NR Nq];refine wp_buildSlice 103 110 1 _ rfl (Value.int .i64 (at_:Int)::s.map am).toArray i0 pE underlying103 HI.a HI.b HSL.a HSL.b (by simp only[map_toArray,map_cons,map_nil];exact HSL.y) ?_;simp only[Act.put,QA,QB,QC];refine hK _ _ ?_;clear hK K;refine wpAny_ready (rs:=[9]) Nc Nh ?_;refine AllReady.cons rfl (fun K hK=>?_) ?_
     ·simp only[getElem_toArray,getElem_cons_succ,getElem_cons_zero];rw[NR Nq];refine jQ (.tmp 39) (.tmp 43) 103 rfl 110 i0 pE 129 136 underlying103 HI.a HI.b HI.c HI.x jY Nk L.chv L.N8.length (bI L.N8) rfl HW.z ⟨w2.heap.size,0,none⟩ 1 1 (Value.int .i64 (at_:Int)::s.map am) rfl HA.a HA.b HA.y (by unfold maxLen;omega) Nb ?_;intro v' w3 hown hgrow hg;obtain⟨g',cap',rfl⟩:=ownsRow_succ hown;have hd3:=HD.o _ w3 hown hgrow hg;have c3:=aa hd3.1 2 (v:=L.chv) Nh;have f3:=aY hd3.1 2;have HF:=NZ hd3;clear hd3 hown hgrow hg;simp only[Act.put,QA,QB,QC];refine hK _ _ ?_;clear hK K;refine wpAny_take (i:=10) (v:=?_) rfl Nc Nc Nc (fun _ _ _ h=>h) (Or.inl ⟨by rfl,?_⟩) ?_;rotate_left
      ·intro w;go_simp;try (with_reducible rfl)
      refine wpAny_take (i:=11) (v:=?_) rfl Nc Nc Nc (fun _ _ _ h=>h) (Or.inl ⟨by rfl,?_⟩) ?_;rotate_left
      ·intro w;go_simp;try (with_reducible rfl)
      refine wpAny_ready (rs:=[12]) Nc Nh ?_;refine AllReady.cons rfl (fun K hK=>?_) ?_
      ·go_simp;refine hK _ _ ?_;clear hK K;refine wpAny_done Nc ?_ _;go_wp2;go_ret;exact HF.z
      exact AllReady.nil
     exact AllReady.nil
    exact AllReady.nil
   refine AllReady.cons rfl (fun K hK=>?_) ?_
   ·simp only[getElem_toArray,getElem_cons_succ,getElem_cons_zero];rw[NR Nq];refine wp_buildSlice 103 110 1 _ rfl (Value.int .i64 (at_:Int)::s.map am).toArray i0 pE underlying103 HI.a HI.b HSL.a HSL.b (by simp only[map_toArray,map_cons,map_nil];exact HSL.y) ?_;simp only[Act.put,QA,QB,QC];refine hK _ _ ?_;clear hK K;refine wpAny_ready (rs:=[4]) Nc Nh ?_;refine AllReady.cons rfl (fun K hK=>?_) ?_
    ·go_simp;refine hK _ _ ?_;clear hK K;refine wpAny_ready (rs:=[9]) Nc Nh ?_;refine AllReady.cons rfl (fun K hK=>?_) ?_
     ·simp only[getElem_toArray,getElem_cons_succ,getElem_cons_zero];rw[NR Nq];refine jQ (.tmp 39) (.tmp 43) 103 rfl 110 i0 pE 129 136 underlying103 HI.a HI.b HI.c HI.x jY Nk L.chv L.N8.length (bI L.N8) rfl HW.z ⟨w2.heap.size,0,none⟩ 1 1 (Value.int .i64 (at_:Int)::s.map am) rfl HA.a HA.b HA.y (by unfold maxLen;omega) Nb ?_;intro v' w3 hown hgrow hg;obtain⟨g',cap',rfl⟩:=ownsRow_succ hown;have hd3:=HD.o _ w3 hown hgrow hg;have c3:=aa hd3.1 2 (v:=L.chv) Nh;have f3:=aY hd3.1 2;have HF:=NZ hd3;clear hd3 hown hgrow hg;simp only[Act.put,QA,QB,QC];refine hK _ _ ?_;clear hK K;refine wpAny_take (i:=10) (v:=?_) rfl Nc Nc Nc (fun _ _ _ h=>h) (Or.inl ⟨by rfl,?_⟩) ?_;rotate_left
      ·intro w;go_simp;try (with_reducible rfl)
      refine wpAny_take (i:=11) (v:=?_) rfl Nc Nc Nc (fun _ _ _ h=>h) (Or.inl ⟨by rfl,?_⟩) ?_;rotate_left
      ·intro w;go_simp;try (with_reducible rfl)
      refine wpAny_ready (rs:=[12]) Nc Nh ?_;refine AllReady.cons rfl (fun K hK=>?_) ?_
      ·go_simp;refine hK _ _ ?_;clear hK K;refine wpAny_done Nc ?_ _;go_wp2;go_ret;exact HF.z
      exact AllReady.nil
     exact AllReady.nil
    exact AllReady.nil
   exact AllReady.nil
  exact AllReady.nil
 exact AllReady.nil
theorem ap(n:Nat):(an n).length=n:=by simp[an]
theorem ND{p:Prop}(h:p:=by rw[ap];omega):p:=h
theorem MC(m:Nat):madeCells eJ m=aw (an m):=by
 apply Array.ext_getElem?;intro k;unfold madeCells aw an;by_cases hk:k<m
 ·have hz:eJ.size=128:=by simp[eJ,bL,an]
  have h2:k%eJ.size<eJ.size:=by rw[hz];omega
  have h3:eJ[k%eJ.size]! = am 0:=by
   rw[getElem!_pos eJ _ h2]
   have h5:eJ[k%eJ.size]?=some (am 0):=by
    refine(ex (an 128) (k%eJ.size) ND).trans ?_;exact congrArg some (congrArg am (getElem_replicate _))
   rw[Array.getElem?_eq_getElem h2]at h5;exact Option.some.inj h5
  simp[hk,h3]
 ·simp[hk]
theorem y9(n:Nat)(hn:n<=1099511627776)(w:World):(Instr.makeSlice 102 (.int .i64 n) (.int .i64 n)).run prog w =
  .ok (.slice (some ⟨w.heap.size,0,none⟩) n n) (w.alloc (.cells (aw (an (128*n))) 43)):=by
 obtain⟨i,hi,hz,hs,hb⟩:=info_parts JK;rw[run_make w 102 43 i _ underlying102 hi hz .i64 .i64 _ _ Nb Nb (by rw[hb];omega) Nb];have e1:((n:Int)).toNat=n:=Nb
 rw[e1,hs,show(Value.agg eJ).cells=eJ from rfl,MC,Nat.mul_comm]
def oQ(n:Nat)(w:World)(e:Ending)(w':World):Prop :=
 ∃d L,e=.returned (.pointer (some ⟨d,0,none⟩))/\Turns [] (aA d L) w w'/\Ou L/\L.n=n/\L.now=an (128*n)/\L.N8=[]
def Gj(n sb nb:Nat):Ol:=⟨n,sb,nb,.slice none 0 0,an (128*n),an (128*n),[]⟩
theorem ES{n:Nat}(hn:n<=1099511627776)(sb nb:Nat):Ou (Gj n sb nb) :=
 ⟨hn,ap _,ap _,⟨rfl,fun _=>⟨rfl,rfl⟩⟩,fun c hc=>by simp[Gj]at hc,rfl⟩
theorem Gi{n:Nat}(hn:n<=1099511627776)(w:World)(e:Ending)(he:e=.returned (.pointer (some ⟨w.heap.size+1+1,0,none⟩))):oQ n w e
  (((w.alloc (Obj.cells (aw (an (128*n))) 43)).alloc (Obj.cells (aw (an (128*n))) 43)).alloc (Obj.cells #[Value.slice (some { block:=w.heap.size,off:=0 }) n n,Value.slice (some { block:=w.heap.size+1,off:=0 }) n n,Value.slice none 0 0,Value.int IntKind.i64 (-1)] 105)).drew:=by
 refine⟨w.heap.size+1+1,Gj n w.heap.size (w.heap.size+1),he,?_,ES hn _ _,rfl,rfl,rfl⟩;have h:=((((Turns.refl (Sat.nil w)).Q9 (Obj.cells (aw (an (128*n))) 43)).Q9 (Obj.cells (aw (an (128*n))) 43)).Q9 (Obj.cells #[Value.slice (some { block:=w.heap.size,off:=0 }) n n,Value.slice (some { block:=w.heap.size+1,off:=0 }) n n,Value.slice none 0 0,Value.int IntKind.i64 (-1)] 105)).drew;simpa[aA,Gj,bH,Value.ownBlock]using h
theorem Dy{n:Nat}(hn:n<=1099511627776)(w:World)(e:Ending)(he:e=.returned (.pointer (some ⟨w.heap.size+1+1,0,none⟩))):oQ n w e
  (((w.alloc (Obj.cells (aw (an (128*n))) 43)).alloc (Obj.cells (aw (an (128*n))) 43)).alloc (Obj.cells #[Value.slice (some { block:=w.heap.size+1,off:=0 }) n n,Value.slice (some { block:=w.heap.size,off:=0 }) n n,Value.slice none 0 0,Value.int IntKind.i64 (-1)] 105)).drew:=by
 refine⟨w.heap.size+1+1,Gj n (w.heap.size+1) w.heap.size,he,?_,ES hn _ _,rfl,rfl,rfl⟩;have h:=((((Turns.refl (Sat.nil w)).Q9 (Obj.cells (aw (an (128*n))) 43)).Q9 (Obj.cells (aw (an (128*n))) 43)).Q9 (Obj.cells #[Value.slice (some { block:=w.heap.size+1,off:=0 }) n n,Value.slice (some { block:=w.heap.size,off:=0 }) n n,Value.slice none 0 0,Value.int IntKind.i64 (-1)] 105)).drew;refine(h.perm (Perm.refl _) ((Perm.swap _ _ _).cons _)).perm (Perm.refl _) ?_;simp[aA,Gj,bH,Value.ownBlock]
theorem jC(n:Nat)(hn:n<=1099511627776)(w:World):Calls prog 46 #[.int .i64 n] w (oQ n w):=by
 have hmk:=y9 n hn;have hp:(0:Int)<=n:=Nb
 go_enter func46,ntmps46;go_wp2_with fail;go_region
 all_goals
  go_wp2_with fail;go_ret
 ·exact Gi hn w _ rfl
 ·exact Dy hn w _ rfl
theorem pW(c:Nat×Bs)(r:List (Nat×Bs)):bI (c::r)=(Value.int .i64 c.1::c.2.map am)++bI r:=by simp[bI]
theorem yk{l:List (Nat×Bs)}(h:∀c∈l,c.2.length=128)(k:Nat):(bI l).drop (129*k)=bI (l.drop k):=by
 induction k generalizing l with
 | zero=>simp
 | succ k ih =>
  cases l with
  | nil=>simp[bI]
  | cons c r =>
   have h1:=h c Nh;rw[QD,<- ih (fun x hx=>h x (mem_cons_of_mem _ hx))];rw[pW,drop_append,drop_of_length_le Nj,nil_append];congr 1;simp;omega
theorem Ku{w:World}{g n cap:Nat}{l:List (Nat×Bs)}{k:Nat}(h:w.ownsRow 0 110 129 (.slice (some ⟨g,0,none⟩) n cap) l.length (bI l))(hl:∀c∈l,c.2.length=128)(hk:k<l.length):
  w.rangeAt g (k*129) (Value.int .i64 l[k].1::l[k].2.map am):=fun j v hv=>by
 have hc:=h.cells (g:=g) rfl (k*129+j) v (by
  have e:(bI l)[k*129+j]?=((bI l).drop (129*k))[j]?:=by rw[getElem?_drop,Nat.mul_comm]
  rw[e,yk hl,drop_eq_getElem_cons hk]
  rw[pW,getElem?_append_left (List.getElem?_eq_some_iff.1 hv).1]
  exact hv)
 rwa [Addr.add_mid,Nat.zero_add]at hc
theorem yg{s:Bs}{l:List (Nat×Bs)}{k:Nat}(h:k<l.length):jh s (l.take (k+1))=ba (jh s (l.take k)) (128*l[k].1) l[k].2:=by
 rw[QH h,pP]
theorem tL{l:List (Nat×Bs)}{n:Nat}:∀{s:Bs},s.length=128*n->(∀c∈l,c.1<n/\c.2.length=128)->(jh s l).length=128*n:=by
 induction l with
 | nil=>intro s h _;exact h
 | cons c r ih =>
  intro s h hl;have h1:=hl c Nh;exact ih (s:=ba s (128*c.1) c.2) (by rw[jN Nb];exact h) (fun x hx=>hl x (mem_cons_of_mem _ hx))
theorem Kv:(prog.info? 110).map (·.size)=some 129:=Nc
def lm(d:Nat)(L:Ol)(w:World)(e:Ending)(w':World):Prop :=
 e=.returned .nilIface/\∃L',Turns (aA d L) (aA d L') w w'/\Ou L'/\L'.n=L.n/\L'.now=L.now/\L'.safe=L.now/\L'.N8=[]
def Hi(d:Nat)(L:Ol)(w:World)(i:Value)(wr:World):Prop :=
 ∃k:Nat,k<=L.N8.length/\i=.int .i64 k/\Turns (aA d L) (aA d { L with safe:=jh L.safe (L.N8.take k) }) w wr
def xU:Array Value:=#[.int .i64 0]++eJ
theorem vA:xU.size=129:=Nc
theorem Lp(w:World):(zeroValue 110).run prog w=.ok (.agg xU) w:=Nc
theorem dA{w:World}{b:Nat}{C:Array Value}{t:TypeId}(h:w.heap[b]?=some (.cells C t (0,0)))(o n:Nat)(hn:o+n<=C.size):w.there b o n:=fun j hj=>by
 rw[aa h (o+j) (Array.getElem?_eq_getElem Nb)]
 exact⟨rfl,aY h _⟩
theorem fp{w:World}{b:Nat}{C:List Value}{t:TypeId}(h:w.heap[b]?=some (.cells C.toArray t (0,0)))(o:Nat)(vs:List Value)(hn:o+vs.length<=C.length):
  (w.setCells b o vs).heap[b]?=some (.cells (spl C o vs).toArray t (0,0))/\N7 (fun k=>k=b) w (w.setCells b o vs):=by
 induction vs generalizing w C o with
 | nil=>exact⟨by simpa[World.setCells,spl]using h,by simpa[World.setCells]using N7.refl _ w⟩
 | cons x r ih =>
  simp only[World.setCells];simp only[length_cons]at hn;have h1:=bq h o x;rw[QA]at h1;obtain⟨h2,h3⟩:=ih h1 (o+1) (by rw[length_set];omega);refine⟨h2.trans ?_,((N7.refl (fun k=>k=b) w).set1 x).trans h3⟩;congr 3;obtain⟨A,y,B,rfl,rfl⟩:∃A y B,C=A++y::B/\A.length=o:=⟨C.take o,C[o],C.drop (o+1),by rw[<- drop_eq_getElem_cons,take_append_drop],Nj⟩;unfold spl;rw[set_append_right _ _ (Nat.le_refl _),Nat.sub_self,QB,take_append,take_append,drop_append,drop_append];simp only[take_of_length_le (show A.length<=A.length+1 by omega),show A.length+1-A.length=1 by omega,Nat.sub_self,take_length,take_zero,append_nil,length_cons];rw[drop_of_length_le (show A.length<=A.length+1+r.length by omega),drop_of_length_le (show A.length<=A.length+(r.length+1) by omega),show A.length+1+r.length-A.length=r.length+1 by omega,show A.length+(r.length+1)-A.length=r.length+1 by omega];simp
theorem dQ{w:World}{b:Nat}{C:Array Value}{t:TypeId}(h:w.heap[b]?=some (.cells C t (0,0)))(vs:List Value)(hn:vs.length=C.size):
  (w.setCells b 0 vs).heap[b]?=some (.cells vs.toArray t (0,0))/\N7 (fun k=>k=b) w (w.setCells b 0 vs):=by
 obtain⟨h1,h2⟩:=fp (C:=C.toList) (by simpa using h) 0 vs Nj;refine⟨h1.trans ?_,h2⟩;congr 3;unfold spl;rw[drop_of_length_le Nj];simp
theorem FT{d:Nat}{L:Ol}{w wr:World}(hT:Turns (aA d L) (aA d { L with safe:=L.now }) w wr)(hL:Ou L):lm d L w (.returned .nilIface) (wr.setCell ⟨d,2,none⟩ (.slice none 0 0)):=by
 have hd:=fw (R:=[]) (by simpa using hT.sat);have h1:=hT.Qa (o:=.cells #[.slice (some ⟨L.sb,0,none⟩) L.n L.n,.slice (some ⟨L.nb,0,none⟩) L.n L.n,.slice none 0 0,.int .i64 (-1)] 105 (0,0)) ((N7.refl _ wr).set1 _) ((bq hd 2 (.slice none 0 0)).trans Nh);refine⟨rfl,{ L with safe:=L.now,chv:=.slice none 0 0,N8:=[] },?_,⟨hL.hn,hL.OU,hL.OU,⟨rfl,fun _=>⟨rfl,rfl⟩⟩,fun c hc=>by simp at hc,rfl⟩,rfl,rfl,rfl,rfl⟩;refine Turns.left (H:=bH 110 129 L.chv L.N8.length (bI L.N8)) ?_;exact h1
theorem ib(d:Nat)(L:Ol)(w:World)(h:Sat w (aA d L))(hL:Ou L)(hc:L.N8.length<=1099511627776):
  Calls prog 20 #[.pointer (some ⟨d,0,none⟩)] w (lm d L w):=by
 have hd:=fw (R:=[]) (by simpa using h);have c2:=aa hd 2 (v:=L.chv) Nh;have HO:=NZ (rq d L w h);have hown:=aW h.tail.tail.tail hL.row;have H:=Oz h hd hL
 obtain⟨a,cap,hv⟩:∃a cap,L.chv=.slice a L.N8.length cap:=by
  rcases hown.2 with⟨h1,h2⟩|⟨g,cp,cur,h1,_⟩
  ·exact⟨none,0,by rw[h1,h2]⟩
  ·exact⟨_,cp,h1⟩
 rw[hv]at c2;have HV:=NZ hv;clear h hd hL hown hv;go_enter func20,ntmps20;go_wp2_with fail;refine HO.o.mono ?_;rintro e w1 ⟨rfl,rfl⟩;go_wp2_with fail;go_loopw [15] (fun i wr=>Hi d L w i wr) (fun i _=>L.N8.length-(intOf i).toNat)
 case atStart=>exact⟨0,Nat.zero_le _,rfl,Turns.refl H.a⟩
 case round =>
  obtain⟨k,hk,rfl,hT⟩:=hrel;by_cases hlt:k<L.N8.length
  ·have hown:wr.ownsRow 0 110 129 L.chv L.N8.length (bI L.N8):=aW hT.sat.tail.tail.tail H.y.row;rw[HV.o]at hown;have hel:=H.y.N8 L.N8[k] (getElem_mem hlt)
   have ha:∃g,a=some ⟨g,0,none⟩:=by
    rcases hown.2 with⟨h1,h2⟩|⟨g,cp,cur,h1,_⟩
    ·omega
    ·simp only[Value.slice.injEq]at h1;exact⟨g,h1.1⟩
   obtain⟨g,rfl⟩:=ha;have hr:=Ku hown (fun c hc=>(H.y.N8 c hc).2) hlt;have hsl:=tL (l:=L.N8.take k) H.y.Ut (fun c hc=>H.y.N8 c (mem_of_mem_take hc));have hap:=yg (s:=L.safe) hlt;have hd:=fw (R:=[]) (by simpa using hT.sat);have hsafe:=wY (R:=[]) (by simpa using hT.sat);have c0:=aa hd 0 (v:=.slice (some ⟨L.sb,0,none⟩) L.n L.n) Nh;have hdl:d<wr.heap.size:=ae hd;generalize L.N8[k]=c at *
   obtain⟨at_,s⟩:=c;simp only at hel hr hap;obtain⟨hat,hsz⟩:=hel;have hz:=Lp;have hrl:(prog.info? 110).map (·.size)=some (Value.int .i64 at_::s.map am).length:=by rw[Kv];simp[hsz]
   have h1c:(Value.int .i64 at_::s.map am).toArray.all (·.oneCell')=true:=all_oneCell_toArray (fun u hu=>by
    rcases mem_cons.1 hu with rfl|hu
    ·rfl
    ·exact dF s u hu)
   have hin:(at_:Int)<(L.n:Int):=Nb
   have HR:=Uh hT hr hap hsafe hrl h1c hsz hsl;clear hT hr hap hsafe hrl h1c hown hd hsl;go_wp2_with (first|(refine wpList_load_mid rfl 110 (.tmp 17) rfl g (k*129) rfl (Value.int .i64 at_::s.map am) _ ?c1 underlying110 rfl HR.e ?_)|(refine wpList_store_mid rfl 110 (.tmp 4) (.tmp 18) rfl wr.heap.size 0 (Value.int .i64 at_::s.map am).toArray rfl rfl ?c2 (by rw[size_toArray];exact HR.e) HR.f ?_))
   case c1=>exact HR.b
   case c2=>exact dA (aM wr _) 0 _ (by rw[vA];first|omega|simp[HR.g])
   obtain⟨hb2,hm2⟩:=dQ (aM wr (.cells xU 110)) (Value.int .i64 at_::s.map am) (by rw[vA];simp[HR.g]);generalize hB:wr.heap.size=B at *
   have hs2:aV wr ((wr.alloc (.cells xU 110)).setCells B 0 (Value.int .i64 at_::s.map am)):=((N7.refl _ wr).alloc _).trans' hm2 (fun i hi=>.inr Nb);show Code.wp _ _ _ _ ((wr.alloc (.cells xU 110)).setCells B 0 (Value.int .i64 at_::s.map am));generalize (wr.alloc (.cells xU 110)).setCells B 0 (Value.int .i64 at_::s.map am)=w2 at hb2 hs2 ⊢;have hT2:=HR.a.Q8 hs2;have hd2:=fw (R:=[]) (by simpa using hT2.sat);have e0:=aa hd2 0 (v:=.slice (some ⟨L.sb,0,none⟩) L.n L.n) Nh;have e1:=aa hb2 0 (v:=.int .i64 at_) Nh;have qap:=wY (R:=[]) (by simpa using hT2.sat);have hr2:w2.rangeAt B 1 (s.map am):=fun j v hv=>aa hb2 (1+j) (by simpa[Nat.add_comm 1]using hv)
   have H2:=Oz hT2 qap hr2;clear hT2 qap hr2 hb2 hm2 hs2 c0 hd2;refine wp_region_still_tail 9 HM.o Nc ?_;simp only[QE,take_zero,QD,drop_zero];iterate 7 still_step
   refine cC rfl 43 (.tmp 25) rfl B 1 rfl (s.map am) _ H2.y underlying43 rfl (gT HR.g) ?_;repeat still_step
   refine wpStill_nil ?_;change wpList _ _ _ _ _ w2.drew;go_wp2_with (refine wpList_store_mid rfl 43 (.tmp 27) (.tmp 26) rfl L.sb (at_*128) (aw s) rfl rfl ?c3 (gU HR.g) (cS _) ?_)
   case c3=>exact eT H2.b _ _ (by rw[bL,HR.g,HR.t];omega)
   obtain⟨hp1,hp2⟩:=mi (w:=w2.drew) H2.b (at_*128) s (by rw[HR.g,HR.t];omega);refine⟨⟨k+1,Nb,by go_num,?_⟩,by simp[intOf];omega⟩;have:=(H2.a.drew).trans (yy (H2.a.drew).sat hp2 hp1);rw[HR.c,Nat.mul_comm 128];exact this
  ·obtain rfl:k=L.N8.length:=Nb
   rw[take_length,H.y.now]at hT;have hd:=fw (R:=[]) (by simpa using hT.sat);have k2:=aa hd 2 (v:=L.chv) Nh;rw[HV.o]at k2;have f2:=aY hd 2;have HE:=NZ (FT hT H.y);clear hd hT;go_wp2_with fail;go_ret;exact HE.o
def aJ(v:Value)(l:Bs):HF:=bH 5 1 v l.length (l.map am)
def PE(v:Value)(l:Bs):Prop:=ei 1 v l.length (l.map am)
theorem dh{w:World}{v:Value}{l:Bs}(h:Sat w (aJ v l))(k:PE v l):w.ownsRow 0 5 1 v l.length (l.map am):=aW h k
def jF(v:Value)(l l':Bs)(w:World)(e:Ending)(w':World):Prop:=∃v',e=.returned v'/\PE v' l'/\Turns (aJ v l) (aJ v' l') w w'
theorem pR:aJ (.slice none 0 0) []=[]:=rfl
theorem go:PE (.slice none 0 0) []:=⟨rfl,fun _=>⟨rfl,rfl⟩⟩
def Pv:Int->Nat->Bs
 | _,0=>[]
 | n,k+1=>UInt8.ofNat (n / 256 ^ k%256).toNat::Pv n k
theorem bU(n:Int)(k:Nat):(Pv n k).length=k:=by
 induction k with
 | zero=>rfl
 | succ k ih=>simp[Pv,ih]
theorem IA(n:Int)(k j:Nat)(h:j<=k):(Pv n k).drop (k-j)=Pv n j:=by
 induction k with
 | zero =>
  obtain rfl:j=0:=Nb
  rfl
 | succ k ih =>
  by_cases e:j=k+1
  ·subst e;simp
  ·rw[show k+1-j=(k-j)+1 by omega,Pv,QD];exact ih Nb
theorem vL(n:Int)(k j:Nat)(h:j+1<=k):(Pv n k).take (k-j)=(Pv n k).take (k-(j+1))++[UInt8.ofNat (n / 256 ^ j%256).toNat]:=by
 have hl:k-(j+1)<(Pv n k).length:=by rw[bU];omega
 rw[show k-j=(k-(j+1))+1 by omega,QH hl];congr 2;have hd:=IA n k (j+1) h;rw[drop_eq_getElem_cons hl,Pv]at hd;exact(List.cons.inj hd).1
theorem yi(n k:Nat):Pv (n:Int) k=be n k:=by
 induction k with
 | zero=>rfl
 | succ k ih =>
  rw[Pv,be,ih];congr 1;apply UInt8.toNat_inj.1;rw[UInt8.toNat_ofNat',UInt8.toNat_ofNat']
  have:((n:Int) / 256 ^ k%256).toNat=n / 256 ^ k%256:=by
   have e:((n:Int) / 256 ^ k%256)=((n / 256 ^ k%256:Nat):Int):=Nh
   exact(congrArg Int.toNat e).trans (Int.toNat_natCast _)
  rw[this];omega
theorem Kp(n:Nat):Pv (-(n:Int)-1) 2=be (65535-n%65536) 2:=by
 have e1:((-(n:Int)-1) / 256 ^ 1%256).toNat=(65535-n%65536) / 256%256:=Nb
 have e2:((-(n:Int)-1) / 256 ^ 0%256).toNat=(65535-n%65536)%256:=Nb
 simp only[Pv,be,e1,e2,Nat.pow_one,Nat.pow_zero,Nat.div_one];congr 1
 ·apply UInt8.toNat_inj.1;rw[UInt8.toNat_ofNat',UInt8.toNat_ofNat'];omega
 ·congr 1;apply UInt8.toNat_inj.1;rw[UInt8.toNat_ofNat',UInt8.toNat_ofNat'];omega
def Hr(v0:Value)(l:Bs)(n:Int)(m:Nat)(w:World)(v i:Value)(wr:World):Prop :=
 ∃j:Nat,j<=m/\i=.int .i64 ((j:Int)-1)/\PE v (l++(Pv n m).take (m-j))/\Turns (aJ v0 l) (aJ v (l++(Pv n m).take (m-j))) w wr
theorem FB{F G:HF}{a w w':World}{v v':Value}{l:Bs}{o:Obj}{x:UInt8}{y:Value}(hT:Turns F (aJ v l++G) a w)(hx:y=am x)(hown:w'.ownsRow 0 5 1 v' (l.length+1) (l.map am++[y]))(hgrow:(w.alloc o).grownBy w' v.ownBlock)(hg:∀g,v'.ownBlock=some g->v.ownBlock=some g\/(w.alloc o).heap.size<=g):PE v' (l++[x])/\Turns F (aJ v' (l++[x])++G) a w':=by
 subst hx;have e:l.map am++[am x]=(l++[x]).map am:=Nh
 have en:l.length+1=(l++[x]).length:=Nh
 rw[e,en]at hown;exact⟨(fe hown).2,(hT.alloc o).grow hown hgrow hg⟩
theorem Bd{v0 v v':Value}{l:Bs}{n:Int}{m j:Nat}{w wr w3:World}{o:Obj}{y:Value}(h0:0<j)(hj:j<=m)(hT:Turns (aJ v0 l) (aJ v (l++(Pv n m).take (m-j))) w wr)(hown:w3.ownsRow 0 5 1 v' ((l++(Pv n m).take (m-j)).length+1) ((l++(Pv n m).take (m-j)).map am++[y]))(hy:y=.int .u8 (n / 2 ^ (8*(j-1))%256))(hgrow:(wr.alloc o).grownBy w3 v.ownBlock)(hg:∀g,v'.ownBlock=some g->v.ownBlock=some g\/(wr.alloc o).heap.size<=g)(i:Value)(hi:i=.int .i64 ((j:Int)-1-1)):Hr v0 l n m w v' i w3:=by
 have hx:y=am (UInt8.ofNat (n / 256 ^ (j-1)%256).toNat):=by
  rw[hy];have e2:(2:Int) ^ (8*(j-1))=256 ^ (j-1):=by rw[Int.pow_mul];rfl
  rw[e2];generalize n / 256 ^ (j-1)=q;simp only[am,UInt8.toNat_ofNat'];congr 1;omega
 have e:(Pv n m).take (m-(j-1))=(Pv n m).take (m-j)++[UInt8.ofNat (n / 256 ^ (j-1)%256).toNat]:=by
  have:=vL n m (j-1) Nb;rwa [show j-1+1=j by omega]at this
 have hT':Turns (aJ v0 l) (aJ v (l++(Pv n m).take (m-j))++[]) w wr:=by simpa using hT
 obtain⟨h1,h2⟩:=FB hT' hx hown hgrow hg;refine⟨j-1,Nb,by rw[hi];congr 1;omega,?_,?_⟩
 ·rw[e,<- NV];exact h1
 ·rw[e,<- NV];simpa using h2
theorem eu(v:Value)(l:Bs)(n:Int)(m:Nat)(w:World)(hm:m<=8)(hl:l.length<=1099511627776)(_ : -9223372036854775808<=n)(_:n<=9223372036854775807)(h:Sat w (aJ v l))(hv:PE v l):
  Calls prog 127 #[v,.int .i64 n,.int .i64 m] w (jF v l (l++Pv n m) w):=by
 have H:=Ob h hv;clear h hv;go_enter func127,ntmps127;go_wp2;go_loopw [0,7] (fun v' i wr=>Hr v l n m w v' i wr) (fun _ i _=>(intOf i+1).toNat)
 case atStart=>exact⟨m,Nat.le_refl _,rfl,by simpa using H.z,by simpa using Turns.refl H.a⟩
 case round =>
  obtain⟨j,hj,rfl,hok,hT⟩:=hrel;by_cases hlt:0<j
  ·obtain⟨i0,hi0,hz1,hz2,hz3⟩:=info_parts iD;have HT:=Ob hok hT;have hown:=dh hT.sat hok;have HO:=NZ hown;have HI:=OW hi0 hz1 hz2 hz3;clear hok hT hown hi0 hz1 hz2 hz3;go_wp2_with (refine gA _ rfl _ _ 38 rfl 5 i0 (.int .u8 0) 1 1 underlying38 HI.a HI.b HI.c HI.x rfl Nk _ _ _ rfl (HO.o.alloc _) ⟨wr.heap.size,0,none⟩ 1 1 [_] rfl rfl (cell_one_new _ _ _) (by simp[Value.oneCell']) (by unfold maxLen;simp;omega) Nj ?_;intro v' w3 hown' hgrow _ hgb);exact⟨Bd hlt hj HT.z hown' rfl hgrow hgb _ rfl,by simp[intOf];omega⟩
  ·obtain rfl:j=0:=Nb
   have HT:=Ob hok hT;clear hok hT;go_wp2;go_ret;obtain⟨hok,hT⟩:=HT.o;rw[Nat.sub_zero,take_of_length_le (by rw[bU];omega)]at hok hT;exact⟨_,rfl,hok,hT⟩
theorem oX(a b:Nat)(ha:a<4294967296)(hb:b<4294967296):bits BinOp.xor IntKind.u32 (a:Int) (b:Int)=((a ^^^ b:Nat):Int):=by
 have e1:(BitVec.ofInt 32 (a:Int)).toNat=a:=by rw[BitVec.ofInt_natCast,BitVec.toNat_ofNat];exact Nat.mod_eq_of_lt Nb
 have e2:(BitVec.ofInt 32 (b:Int)).toNat=b:=by rw[BitVec.ofInt_natCast,BitVec.toNat_ofNat];exact Nat.mod_eq_of_lt Nb
 show IntKind.u32.wrap ((BitVec.ofInt 32 (a:Int) ^^^ BitVec.ofInt 32 (b:Int)).toNat:Int)=_;rw[BitVec.toNat_xor,e1,e2,IntKind.wrap_u32];have:=nA ha hb;omega
theorem FE(a:Nat)(ha:a<4294967296):bits BinOp.and IntKind.u32 (a:Int) 1=((a%2:Nat):Int):=by
 have e1:(BitVec.ofInt 32 (a:Int)).toNat=a:=by rw[BitVec.ofInt_natCast,BitVec.toNat_ofNat];exact Nat.mod_eq_of_lt Nb
 show IntKind.u32.wrap ((BitVec.ofInt 32 (a:Int) &&& BitVec.ofInt 32 (1:Int)).toNat:Int)=_;rw[BitVec.toNat_and,e1,show(BitVec.ofInt 32 (1:Int)).toNat=1 from rfl,Nat.and_one_is_mod,IntKind.wrap_u32];omega
def lL(w:World)(b:Nat)(c:Nat):Prop:=w.heap[b]?=some (.cells #[.int .u32 c] 116 (0,0))
def JZ(b c:Nat)(x:UInt8)(w:World)(e:Ending)(w':World):Prop:=e=.returned (.tuple #[])/\lL w' b (iw c x)/\N7 (fun k=>k=b) w w'
theorem yu(k c:Nat):gV (k+1) c=(gV k c / 2) ^^^ (gV k c%2*3988292384):=by rw[vO];rfl
theorem FO{wr:World}{b q:Nat}(h:lL wr b q)(hq:q<4294967296):lL (wr.setCell ⟨b,0,none⟩ (.int .u32 (bits BinOp.xor IntKind.u32 ((q:Int) / 2) ((q:Int)%2*3988292384)))) b ((q / 2) ^^^ (q%2*3988292384)):=by
 have hm:q%2<2:=Nat.mod_lt _ Nb;have h2:=oX (q / 2) (q%2*3988292384) Nb Nb;have e:((q:Int)%2*3988292384)=((q%2*3988292384:Nat):Int):=Nb
 have e2:((q:Int) / 2)=((q / 2:Nat):Int):=Nb
 rw[e,e2,h2];exact bq h 0 _
theorem tF(b c:Nat)(x:UInt8)(w:World)(hc:c<4294967296)(h:lL w b c):Calls prog 150 #[.int .u8 x.toNat,.pointer (some ⟨b,0,none⟩)] w (JZ b c x w):=by
 have h0:=aa h 0 (v:=.int .u32 c) Nh;have f0:=aY h 0;have hx:=oX c x.toNat hc (zf x);have hx2:=zf x;have hx3:=UInt8.toNat_lt x;have H:=NZ h;clear h;go_enter func150,ntmps150;go_wp2;clear hx h0 f0;go_loopw [7] (fun i wr=>∃k:Nat,k<=8/\i=.int .i64 k/\lL wr b (gV k (c ^^^ x.toNat))/\N7 (fun k=>k=b) w wr) (fun i _=>8-(intOf i).toNat)
 case atStart=>exact⟨0,Nb,rfl,bq H.o 0 _,(N7.refl (fun k=>k=b) w).set1 _⟩
 case round =>
  obtain⟨k,hk,rfl,hcell,hM⟩:=hrel;by_cases hlt:k<8
  ·have hlt32:=ua k (nA hc hx2);have hnx:=yu k (c ^^^ x.toNat);have hc0:=aa hcell 0 (v:=.int .u32 (gV k (c ^^^ x.toNat))) Nh;have hf0:=aY hcell 0;have HC:=Ob hcell hM;have HN:=NZ hnx;clear hcell hM hnx;generalize gV k (c ^^^ x.toNat)=q at *
   have h1:=FE q hlt32;have hm:q%2<2:=Nat.mod_lt _ Nb;go_wp2;exact⟨⟨k+1,Nb,by go_num,by rw[HN.o];exact FO HC.a hlt32,HC.z.set1 _⟩,by simp[intOf];omega⟩
  ·obtain rfl:k=8:=Nb
   have HC:=Ob hcell hM;clear hcell hM;go_wp2;go_end0;exact⟨rfl,HC.a,HC.z⟩
def pM(k:UInt8)(l:Bs)(w:World)(e:Ending)(w':World):Prop:=e=.returned (.int .u32 (dz k l))/\aV w w'
def Ij(k:UInt8)(l:Bs)(w:World)(i:Value)(wr:World):Prop :=
 ∃j:Nat,j<=l.length/\i=.int .i64 j/\lL wr w.heap.size (ix (iw 4294967295 k) (l.take j))/\aV w wr
theorem yv{c:Nat}{l:Bs}{j:Nat}(h:j<l.length):ix c (l.take (j+1))=iw (ix c (l.take j)) l[j]:=by
 unfold ix;rw[QH h,foldl_append];rfl
theorem Lf{k:UInt8}{l:Bs}:bits BinOp.xor IntKind.u32 IntKind.u32.max ((ix (iw 4294967295 k) l:Nat):Int)=(dz k l:Nat):=by
 have:=oX 4294967295 (ix (iw 4294967295 k) l) Nb (pd l (lR Nb k));exact this
theorem jR(a:Option Addr)(cap:Nat)(k:UInt8)(l:Bs)(w:World)(h:ak w a (l.map am))(hl:l.length<=1099511627776):Calls prog 128 #[.int .u8 k.toNat,.slice a l.length cap] w (pM k l w):=by
 have H:=NZ h;have hk:=UInt8.toNat_lt k;have HS:=NZ (fun(w1:World) (hc:lL w1 w.heap.size 4294967295)=>tF w.heap.size 4294967295 k w1 Nb hc);clear h;go_enter func128,ntmps128;go_wp2_with fail;refine(HS.o _ (aM w _)).mono ?_;rintro e w1 ⟨rfl,hc1,hM1⟩;have HM:=NZ (show Ij k l w (.int .i64 0) w1 from⟨0,Nat.zero_le _,rfl,by simpa[ix]using hc1,((N7.refl _ w).alloc _).trans' hM1 (fun i hi=>.inr Nb)⟩);clear hc1 hM1 HS;go_wp2_with fail;go_loopw [15] (fun i wr=>Ij k l w i wr) (fun i _=>l.length-(intOf i).toNat)
 case atStart=>exact HM.o
 case round =>
  obtain⟨j,hj,rfl,hcell,hs⟩:=hrel;by_cases hlt:j<l.length
  ·obtain⟨g,off,rfl,hc⟩:=(H.o.keep hs (fun _ _ _=>id)) Nj;have hcj:=hc j (by simpa using hlt);simp only[getElem_map]at hcj;unfold am at hcj;have hlt32:ix (iw 4294967295 k) (l.take j)<4294967296:=pd _ (lR Nb k);have HC:=NZ (tF w.heap.size _ l[j] wr hlt32 hcell);have HT:=Ob (yv (c:=iw 4294967295 k) hlt) hs;clear hc hcell hs HM H;go_wp2_with fail;refine HC.o.mono ?_;rintro e w2 ⟨rfl,hc2,hM2⟩;have HF:=Ob hc2 (HT.z.trans' hM2 (fun i hi=>.inr Nb));clear hc2 hM2 hcj HC;go_wp2_with fail;exact⟨⟨j+1,Nb,by go_num,by rw[HT.a];exact HF.a,HF.z⟩,by simp[intOf];omega⟩
  ·obtain rfl:j=l.length:=Nb
   rw[take_length]at hcell;have hc0:=aa hcell 0 (v:=.int .u32 (ix (iw 4294967295 k) l)) Nh;have hse:=Lf (k:=k) (l:=l);have HF:=NZ hs;clear hs hcell HM H;go_wp2_with fail;go_ret;exact⟨rfl,HF.o⟩
def Ii(n:Int)(w:World)(e:Ending)(w':World):Prop:=e=.returned (.int .i64 (n+9))/\w=w'
theorem gW(n:Int)(h0:0<=n)(h1:n<=1099511627776)(w:World):Calls prog 79 #[.int .i64 n] w (Ii n w):=by
 go_enter func79,ntmps79;go_wp2;go_ret;exact⟨EZ Nb,rfl⟩
def eK(l':Bs)(w:World)(e:Ending)(w':World):Prop:=∃v',e=.returned v'/\PE v' l'/\Turns [] (aJ v' l') w w'
theorem Turns.news{F:HF}{w w':World}(h:Turns [] F w w'):aV w w':=h.mods.mono (fun b hb=>by simp at hb)
theorem Turns.Xx{F:HF}{w w':World}(h:Turns [] F w w'){b:Nat}(hb:b∈dom F):w.heap.size<=b:=by
 rcases h.fresh b hb with h'|h'
 ·simp at h'
 ·exact h'
theorem ak.turns{F:HF}{w w':World}{a:Option Addr}{xs:List Value}(h:ak w a xs)(hT:Turns [] F w w'):ak w' a xs:=h.keep hT.news (fun _ _ _=>id)
theorem Iy(w:World)(k:UInt8):Turns [] (aJ (.slice (some ⟨w.heap.size,0,none⟩) 1 1) [k]) w (w.alloc (.cells #[.int .u8 k.toNat] 5))/\PE (.slice (some ⟨w.heap.size,0,none⟩) 1 1) [k]:=by
 refine⟨?_,rfl,fun h=>by simp[Value.ownBlock]at h⟩
 have:=(Turns.refl (Sat.nil w)).Qe (φ:=fun o=>∃cap cur,(Value.slice (some ⟨w.heap.size,0,none⟩) 1 1)=.slice (some ⟨w.heap.size,0,none⟩) 1 cap/\o=.cells cur 5 (0,0)/\1<=cap/\cap<=maxLen/\cur.size=cap*1/\cur.toList.take (1*1)=[k].map am)
  (o:=.cells #[.int .u8 k.toNat] 5) ⟨1,_,rfl,rfl,Nat.le_refl _,by unfold maxLen;omega,rfl,rfl⟩
 exact this
theorem jF.news{v:Value}{l l':Bs}{w w1 w2:World}{e:Ending}(hT:Turns [] (aJ v l) w w1)(h:jF v l l' w1 e w2):eK l' w e w2:=by
 obtain⟨v',he,hok,hT'⟩:=h;exact⟨v',he,hok,hT.trans hT'⟩
theorem jG{F G:HF}{a w w':World}{v v':Value}{l s:Bs}(hT:Turns F (aJ v l++G) a w){n:Nat}(hn:n=s.length)(hown:w'.ownsRow 0 5 1 v' (l.length+n) (l.map am++s.map am))(hgrow:w.grownBy w' v.ownBlock)(hg:∀g,v'.ownBlock=some g->v.ownBlock=some g\/w.heap.size<=g):PE v' (l++s)/\Turns F (aJ v' (l++s)++G) a w':=by
 subst hn;have e:l.map am++s.map am=(l++s).map am:=Nh
 have en:l.length+s.length=(l++s).length:=Nh
 rw[e,en]at hown;exact⟨(fe hown).2,hT.grow hown hgrow hg⟩
theorem CT(n:Nat)(h:n<=4611686018427387904):bits BinOp.xor IntKind.i64 (-1) (n:Int)=-(n:Int)-1:=by
 have e1:(BitVec.ofInt 64 (-1))=BitVec.allOnes 64:=Nk
 have e2:(BitVec.ofInt 64 (n:Int)).toNat=n:=by rw[BitVec.ofInt_natCast,BitVec.toNat_ofNat];exact Nat.mod_eq_of_lt Nb
 show IntKind.i64.wrap ((BitVec.ofInt 64 (-1) ^^^ BitVec.ofInt 64 (n:Int)).toNat:Int)=_;rw[e1,BitVec.allOnes_xor,BitVec.toNat_not,e2];unfold IntKind.wrap;simp[IntKind.bits,IntKind.signed];omega
theorem ic(k:UInt8)(a:Option Addr)(cap:Nat)(body:Bs)(w:World)(h:ak w a (body.map am))(hl:body.length<=68719476736):
  Calls prog 78 #[.int .u8 k.toNat,.slice a body.length cap] w (eK (frame k body) w):=by
 have H:=NZ h;have hbn:=CT body.length Nb;have hsl:=nj k body;clear h;go_enter func78,ntmps78;go_wp2_with fail;obtain⟨hT1,hok1⟩:=Iy w k;have H1:=Ob hT1 hok1;clear hT1 hok1;refine(eu _ [k] body.length 2 _ Nb Nh Nb Nb H1.a.sat H1.z).mono ?_;rintro e w2 hp;obtain⟨v2,rfl,hok2,hT2⟩:=jF.news H1.a hp;have H2:=Ob hT2 hok2;clear hT2 hok2 hp H1;go_wp2_with fail;refine(eu v2 _ (-(body.length:Int)-1) 2 w2 Nb (by simp[bU]) Nb Nb H2.a.sat H2.z).mono ?_;rintro e w3 hp;obtain⟨v3,rfl,OZ,Oa⟩:=jF.news H2.a hp;have hown3:=dh Oa.sat OZ;obtain⟨i0,hi0,hz1,hz2,hz3⟩:=info_parts iD;have H3:=Oz Oa hown3 (H.o.turns Oa);have HI:=OW hi0 hz1 hz2 hz3;clear Oa OZ hp H2 hown3 hi0 hz1 hz2 hz3;have hb:(body.map am).length=body.length:=Nh
 have HB:=NZ hb;clear hb;go_wp2_with (refine qK _ rfl (.tmp 15) (.tmp 16) 38 rfl 5 i0 (.int .u8 0) 1 underlying38 HI.a HI.b HI.c HI.x rfl _ _ _ rfl H3.b a body.length cap (body.map am) rfl HB.o H3.y (dF body) (by unfold maxLen;simp[bU];omega) (by simp[bU];omega) ?_;intro v4 w4 hown4 hgrow4 hg4);obtain⟨P7,Oj⟩:=jG (F:=[]) (G:=[]) (v:=v3) (by simpa using H3.a) rfl hown4 hgrow4 hg4;rw[append_nil]at Oj;have H4:=Oz Oj P7 (H.o.turns Oj);clear Oj P7 hown4 hgrow4 hg4;refine(jR a cap k body w4 H4.y Nb).mono ?_;rintro e w5 ⟨rfl,hs5⟩;have Og:=H4.a.Q8 hs5;have H5:=NZ Og;clear hs5 Og;go_wp2_with fail;refine(eu v4 _ (dz k body:Nat) 4 w5 Nb (by simp[bU];omega) Nb Nb H5.o.sat H4.b).mono ?_;rintro e w6 hp;obtain⟨v6,rfl,Tm,Ox⟩:=jF.news H5.o hp;have H6:=Ob Tm Ox;clear Tm Ox hp;go_wp2_with fail;go_ret
 have e:[k]++Pv body.length 2++Pv (-(body.length:Int)-1) 2++body++Pv (dz k body:Nat) 4=frame k body:=by
  rw[yi,yi,Kp];simp[frame]
 rw[<- e];exact⟨v6,rfl,H6.o⟩
theorem bT{P:Program}{ops:Array Oper}{rest:List Oper}{o:Oper}{a:Act}{w:World}{Q:Exit->Act->World->Prop}(hg:o.guard=none)(t:TypeId)(parts:Array (Nat×Operand))(ho:o.op=.build t parts)(cells:Array Value)(hc:P.built t (parts.map fun(i,x)=>(i,a.eval x)).toList=some cells)(h:wpList P ops Q rest (a.put o.dst (.agg cells)) w):wpList P ops Q (o::rest) a w :=
 wpList_plain hg fun _ hK=>kV t parts ho cells hc (hK _ _ h)
structure Oq where
 first:Nat
 count:Nat
 end_:Nat
 tail:Bs
 ch:Nat
 spare:List (Nat×Nat×Nat)
def fq(s:Nat×Nat×Nat):Value:=.slice (some ⟨s.1,0,none⟩) s.2.1 s.2.2
def mj(l:List (Nat×Nat×Nat)):HF:=l.map fun s=>(s.1,fun o=>∃cur:Array Value,o=.cells cur 5 (0,0)/\cur.size=s.2.2)
def aK(d:Nat)(A:Oq):Array Value:=#[.pointer (some ⟨d,0,none⟩),.int .i64 A.first,.int .i64 A.count,.int .i64 A.end_]++aw A.tail++#[.chan (some A.ch)]
def aq(ab d:Nat)(A:Oq):HF :=
 (ab,Is (.cells (aK d A) 157 (0,0)))::(A.ch,fun o=>∃s r,o=.chan 2 (A.spare.map fq).toArray false s r false)::mj A.spare
structure Ov (A:Oq):Prop where
 tail:A.tail.length=128
 few:A.spare.length<=2
 caps:∀s∈A.spare,s.2.1<=s.2.2/\s.2.2<=maxLen
def El:Array Value:=#[.pointer none,.int .i64 0,.int .i64 0,.int .i64 0]++aw (an 128)++#[.chan none]
def mJ(d:Nat)(first count:Nat)(w:World)(e:Ending)(w':World):Prop :=
 ∃ab ch,e=.returned (.pointer (some ⟨ab,0,none⟩))/\Turns [] (aq ab d ⟨first,count,0,an 128,ch,[]⟩) w w'
theorem G8:El=(Value.pointer none :: .int .i64 0 :: .int .i64 0 :: .int .i64 0::((an 128).map am++[Value.chan none])).toArray:=by
 simp[El,aw]
theorem CW(p a b c:Value)(hp:p.cells=#[p])(ha:a.cells=#[a])(hb:b.cells=#[b])(hc:c.cells=#[c]):
  prog.built 157 [(0,p),(1,a),(2,b),(5,c)]=some (#[p,a,b,.int .i64 0]++aw (an 128)++#[c]):=by
 have e:prog.built 157 [(0,p),(1,a),(2,b),(5,c)]=Instr.fill (#[(0,1),(1,1),(2,1),(3,1),(4,128),(132,1)][·]?) El [(0,p),(1,a),(2,b),(5,c)]:=Nc
 rw[e,G8];have hz:((an 128).map am).length=128:=by rw[NP,ap]
 have hr:aw (an 128)=((an 128).map am).toArray:=rfl;rw[hr];generalize (an 128).map am=Z at hz ⊢;rw[jT _ _ 0 p 0 1 _ rfl (by rw[hp];rfl) Nh];rw[jT _ _ 1 a 1 1 _ rfl (by rw[ha];rfl) (by simp[spl,hp])];rw[jT _ _ 2 b 2 1 _ rfl (by rw[hb];rfl) (by simp[spl,hp,ha])]
 have e3:spl (spl (spl (Value.pointer none :: .int .i64 0 :: .int .i64 0 :: .int .i64 0::(Z++[Value.chan none])) 0 p.cells.toList) 1 a.cells.toList) 2 b.cells.toList=p::a::b :: .int .i64 0::(Z++[Value.chan none]):=by
  simp[spl,hp,ha,hb]
 rw[e3,jT _ _ 5 c 132 1 _ rfl (by rw[hc];rfl) (by simp[hz])]
 have e4:spl (p::a::b::Value.int .i64 0::(Z++[Value.chan none])) 132 c.cells.toList=p::a::b :: .int .i64 0::(Z++[c]):=by
  have:(132:Nat)=Z.length+4:=Nb
  simp[spl,hc,this]
 rw[e4];simp[Instr.fill]
theorem Mc:(prog.info? 38).map (fun i=>i.bytes)=some 24:=Nc
theorem Mf(w:World):(Instr.makeChan 155 (.int .i64 2)).run prog w=.ok (.chan (some w.heap.size)) (w.alloc (.chan 2 #[] false 0 0 false)):=by
 have h:=Mc
 cases hi:prog.info? 38 with
 | none=>rw[hi]at h;simp at h
 | some i =>
  rw[hi]at h;have hb:i.bytes=24:=by simpa using h
  simpa using Conc.run_makeChan (P:=prog) (w:=w) underlying155 hi .i64 2 Nb (by rw[hb];omega)
theorem vG(d first count:Nat)(w:World):Calls prog 99 #[.pointer (some ⟨d,0,none⟩),.int .i64 first,.int .i64 count] w (mJ d first count w):=by
 have hm:=Mf;have hb:=CW (.pointer (some ⟨d,0,none⟩)) (.int .i64 first) (.int .i64 count) (.chan (some w.heap.size)) rfl rfl rfl rfl;have HB:Hid (prog.built 157 [(0,.pointer (some ⟨d,0,none⟩)),(1,.int .i64 first),(2,.int .i64 count),(5,.chan (some w.heap.size))]=some (aK d ⟨first,count,0,an 128,w.heap.size,[]⟩)):=NZ hb;clear hb;go_enter func99,ntmps99;go_wp2_with (refine bT rfl 157 _ rfl (aK d ⟨first,count,0,an 128,w.heap.size,[]⟩) (by simp only[map_toArray,map_cons,map_nil];exact HB.o) ?_);go_ret;refine⟨w.heap.size+1,w.heap.size,rfl,?_⟩;show Turns [] _ w ((w.alloc (.chan 2 #[] false 0 0 false)).alloc (.cells (aK d ⟨first,count,0,an 128,w.heap.size,[]⟩) 157));have h:=((Turns.refl (Sat.nil w)).Qe (φ:=fun o=>∃s r,o=.chan 2 #[] false s r false) (o:=.chan 2 #[] false 0 0 false) ⟨0,0,rfl⟩).Q9 (.cells (aK d ⟨first,count,0,an 128,w.heap.size,[]⟩) 157);simp only[World.size_alloc]at h;exact h
theorem ij{w w':World}(hs:aV w w'){a:Addr}{v:Value}(h:w.cell? a=some v):w'.cell? a=some v:=(World.cell?_of_block (w:=w) (hs.block a.block (World.block_lt_of_cell? w _ h) id)).trans h
theorem D9{w w':World}(hs:aV w w'){b o n:Nat}(h:w.there b o n):w'.there b o n:=fun j hj=>by
 obtain⟨h1,h2⟩:=h j hj
 obtain⟨u,hu⟩:=Option.isSome_iff_exists.1 h1
 have hb:=World.block_lt_of_cell? w _ hu
 have he:=hs.block b hb id
 exact⟨by rw[ij hs hu];rfl,by rw[<- h2];simp[World.frozen?,he]⟩
theorem M0{wr w2:World}(hs:aV wr w2){s:Bs}(hl:s.length=128):((w2.alloc (.cells eJ 43)).setCells w2.heap.size 0 (s.map am)).heap[w2.heap.size]?=some (.cells (aw s) 43 (0,0)) /\
  aV wr ((w2.alloc (.cells eJ 43)).setCells w2.heap.size 0 (s.map am)):=by
 obtain⟨h1,h2⟩:=dr (aM w2 (.cells (aw (an 128)) 43)) (s:=s) (by rw[hl,ap]);exact⟨h1,((hs.alloc _)).trans' h2 (fun i hi=>.inr (by have:=hs.size;omega))⟩
theorem M1{wr w2:World}(hs:aV (wr.alloc (.cells eJ 43)) w2){s:Bs}(hl:s.length=128):(w2.setCells wr.heap.size 0 (s.map am)).heap[wr.heap.size]?=some (.cells (aw s) 43 (0,0)) /\
  aV wr (w2.setCells wr.heap.size 0 (s.map am)):=by
 have h0:w2.heap[wr.heap.size]?=some (.cells (aw (an 128)) 43 (0,0)):=hs.at (aM wr _) id;obtain⟨h1,h2⟩:=dr h0 (s:=s) (by rw[hl,ap]);exact⟨h1,((((N7.refl _ wr).alloc _).trans' hs (fun i hi=>hi.elim))).trans' h2 (fun i hi=>.inr Nb)⟩
theorem sX{W:World}{b o:Nat}{vs:List Value}{a:Addr}{v:Value}(hne:a.block≠b)(h:W.cell? a=some v):(W.setCells b o vs).cell? a=some v :=
 (World.cell?_setCells_out b vs o W a (fun hb _=>absurd hb.symm hne.symm)).trans h
theorem iu{w:World}{ab d:Nat}{A:Oq}{R:HF}(h:Sat w (aq ab d A++R)):w.heap[ab]?=some (.cells (aK d A) 157 (0,0)):=by exact h.Q5
theorem lO(d:Nat)(A:Oq):(aK d A)[0]?=some (.pointer (some ⟨d,0,none⟩)):=by simp[aK,Array.getElem?_append]
theorem lP(d:Nat)(A:Oq):(aK d A)[1]?=some (.int .i64 A.first):=by simp[aK,Array.getElem?_append]
theorem sV(d:Nat)(A:Oq):(aK d A)[2]?=some (.int .i64 A.count):=by simp[aK,Array.getElem?_append]
theorem nG(d:Nat)(A:Oq):(aK d A)[3]?=some (.int .i64 A.end_):=by simp[aK,Array.getElem?_append]
def aB(l:Bs)(first count:Nat):Bs:=(l.drop (128*first)).take (128*count)
theorem AM{l:Bs}{n first k:Nat}(_:l.length=128*n)(_:first+k<n):aB l first (k+1)=aB l first k++aN l (first+k):=by
 unfold aB aN;rw[Nat.mul_add 128 k 1,take_add,drop_drop];congr 2
 ·congr 1;omega
theorem fC{l:Bs}{n first k:Nat}(hl:l.length=128*n)(h:first+k<=n):(aB l first k).length=128*k:=by
 unfold aB;simp;omega
def J0(l:Bs)(w:World)(e:Ending)(w':World):Prop:=∃v,e=.returned (.tuple #[v,.nilIface])/\PE v l/\Turns [] (aJ v l) w w'
def LI(_ _:Nat)(A:Oq)(L:Ol)(w:World)(v i:Value)(wr:World):Prop :=
 ∃k:Nat,k<=A.count/\i=.int .i64 k/\PE v (aB L.now A.first k)/\Turns [] (aJ v (aB L.now A.first k)) w wr
theorem qO(ab d:Nat)(A:Oq)(L:Ol)(w:World)(h:Sat w (aq ab d A++aA d L))(hL:Ou L)(hA:A.first+A.count<=L.n)(hn:L.n<=1073741824):
  Calls prog 54 #[.pointer (some ⟨ab,0,none⟩)] w (J0 (aB L.now A.first A.count) w):=by
 have hab:=iu h;have a0:=aa hab 0 (lO d A);have a1:=aa hab 1 (lP d A);have a2:=aa hab 2 (sV d A);have hal:ab<w.heap.size:=ae hab;have H:=Oz h hL hab;clear h hL hab;go_enter func54,ntmps54;go_wp2_with fail;clear a0 a1 a2;go_loopw [4,12] (fun v i wr=>LI ab d A L w v i wr) (fun _ i _=>A.count-(intOf i).toNat)
 case atStart=>exact⟨0,Nat.zero_le _,rfl,by simpa[aB]using go,by simpa[aB,pR]using Turns.refl (Sat.nil w)⟩
 case round =>
  obtain⟨k,hk,rfl,hok,hT⟩:=hrel;by_cases hlt:k<A.count
  ·have hs:=hT.news;have hab:=hs.mods (fun _=>False) |>.at (iu H.a) id
   have a0:=aa hab 0 (lO d A);have a1:=aa hab 1 (lP d A);have hal:ab<wr.heap.size:=ae hab;have hz:=mx;have HR:=OW hok hT hs hab;clear hok hT hs hab;have HC:Hid (∀W:World,aV w W->Calls prog 17 #[.pointer (some ⟨d,0,none⟩),.int .i64 ((A.first:Int)+k)] W (j0 L (A.first+k) W)):=NZ (fun W hW=>j5 d L (A.first+k) W (H.a.right.same hW) H.b Nb);have hl:=gz H.b.OU (show A.first+k<L.n by omega);have hone:=dF (aN L.now (A.first+k));have hlm:((aN L.now (A.first+k)).map am).length=128:=by rw[NP];exact hl
   have hi:(prog.info? 43).map (·.size)=some ((aN L.now (A.first+k)).map am).toArray.size:=by rw[size_toArray,hlm];exact qF
   have hth:∀W:World,(W.alloc (.cells eJ 43)).there W.heap.size 0 128:=fun W=>dA (aM W _) 0 128 (by rw[show eJ=aw (an 128)from rfl,bL,ap];omega)
   have hsum:IntKind.i64.wrap ((A.first:Int)+k)=(A.first:Int)+k:=IntWalk.i64_in _ Nb;clear hl;go_wp2_with fail;go_region_held3 (fun w'=>w'.cell? ⟨ab,0,none⟩=some (.pointer (some ⟨d,0,none⟩))/\w'.cell? ⟨ab,1,none⟩=some (.int .i64 A.first)) (first|exact⟨a0,a1⟩|exact⟨k0,k1⟩|exact⟨(World.cell?_alloc_lt _ _ ⟨ab,0,none⟩ hal).trans a0,(World.cell?_alloc_lt _ _ ⟨ab,1,none⟩ hal).trans a1⟩|exact⟨(World.cell?_alloc_lt _ _ ⟨ab,0,none⟩ kl).trans k0,(World.cell?_alloc_lt _ _ ⟨ab,1,none⟩ kl).trans k1⟩|exact⟨sX (by show ab≠_;omega) k0,sX (by show ab≠_;omega) k1⟩|exact⟨sX (by show ab≠_;omega) ((World.cell?_alloc_lt _ _ ⟨ab,0,none⟩ kl).trans k0),sX (by show ab≠_;omega) ((World.cell?_alloc_lt _ _ ⟨ab,1,none⟩ kl).trans k1)⟩) ((go_at_call 17;refine(HC.o _ (by first|exact HR.c.drew|exact HR.c.drew.alloc _)).mono ?_;rintro e w2 ⟨rfl,hs2⟩;have k0:w2.cell? ⟨ab,0,none⟩=some (.pointer (some ⟨d,0,none⟩)):=(by first|exact ij hs2 a0|exact ij hs2 ((World.cell?_alloc_lt _ _ ⟨ab,0,none⟩ hal).trans a0));have k1:w2.cell? ⟨ab,1,none⟩=some (.int .i64 A.first):=(by first|exact ij hs2 a1|exact ij hs2 ((World.cell?_alloc_lt _ _ ⟨ab,1,none⟩ hal).trans a1));have kl:ab<w2.heap.size:=World.block_lt_of_cell? w2 _ k0;(first|have hB2:w2.there wr.heap.size 0 128:=D9 hs2 (hth wr.drew)|skip);have HS2:=NZ hs2;clear hs2));all_goals clear a0 a1 k0 k1 hone hi hth hsum
   all_goals
    first
    | (
     obtain⟨hb3,hs3⟩:=M0 (wr:=wr) ((N7.refl _ wr).drew.trans HS2.o) (s:=aN L.now (A.first+k)) (by simpa using hlm);change Exit.then _ _ _ _ ((w2.alloc (.cells eJ 43)).setCells w2.heap.size 0 ((aN L.now (A.first+k)).map am))
     generalize (w2.alloc (.cells eJ 43)).setCells w2.heap.size 0 ((aN L.now (A.first+k)).map am)=W3 at hb3 hs3 ⊢;generalize w2.heap.size=T at hb3 ⊢)
    | (
     obtain⟨hb3,hs3⟩:=M1 (wr:=wr) ((N7.refl _ (wr.alloc (.cells eJ 43))).drew.trans HS2.o) (s:=aN L.now (A.first+k)) (by simpa using hlm);change Exit.then _ _ _ _ (w2.setCells wr.heap.size 0 ((aN L.now (A.first+k)).map am))
     generalize w2.setCells wr.heap.size 0 ((aN L.now (A.first+k)).map am)=W3 at hb3 hs3 ⊢;generalize wr.heap.size=T at hb3 ⊢)
   all_goals
    have Oa:=HR.b.Q8 hs3;have hown3:=dh Oa.sat HR.a;obtain⟨i0,hi0,hz1,hz2,hz3⟩:=info_parts iD
    have hnews:∀j u,((aN L.now (A.first+k)).map am)[j]?=some u->W3.cell? ((⟨T,0,none⟩:Addr).add j)=some u:=fun j u hu=>by
     rw[Addr.add_mid,Nat.zero_add];exact aa hb3 j (by simpa[aw]using hu)
    have hlk:(aB L.now A.first k).length<=137438953472:=by rw[fC H.b.OU Nb];omega
    have hstep:=AM H.b.OU (first:=A.first) (k:=k) Nb;have H3:=WQ Oa hown3 hnews hlm hi0 hz1 hz2 hz3 hstep;clear Oa hown3 hnews hlm hi0 hz1 hz2 hz3 hb3 hs3 hstep;go_wp2_with (refine gA _ rfl (.tmp 32) (.tmp 33) 38 rfl 5 i0 (.int .u8 0) 1 1 underlying38 H3.e H3.f H3.g H3.h rfl Nk _ _ _ rfl H3.b ⟨T,0,none⟩ 128 128 ((aN L.now (A.first+k)).map am) rfl (by rw[H3.d]) H3.c (dF _) (by unfold maxLen;omega) Nb ?_;intro v' w4 hown' hgrow _ hgb);obtain⟨P7,Oj⟩:=jG (F:=[]) (G:=[]) (v:=u4) (by simpa using H3.a) (by have:=H3.d;simpa using this.symm) hown' hgrow hgb;rw[<- H3.q.o]at P7 Oj;exact⟨⟨k+1,Nb,by go_num,P7,by simpa using Oj⟩,by simp[intOf];omega⟩
  ·obtain rfl:k=A.count:=Nb
   have HR:=Ob hok hT;clear hok hT;go_wp2_with fail;go_ret2;exact⟨_,rfl,HR.o⟩
theorem pQ{t n:Nat}(ht:prog.underlying t=some (.array n 5))(hc:prog.cellsOf t=n)(d:Nat)(s:Bs)(hs:s.length=n):
  prog.keyLits (d+2) t (s.map am)=some (s.map fun x=>Lit.int .u8 x.toNat):=by
 have h1:prog.cellsOf 5=1:=Nc
 have e0:prog.keyLits (d+2) t (s.map am)=if(s.map am).length=n then((range n).mapM fun i=>prog.keyLits (d+1) 5 (((s.map am).drop i).take 1)).map flatten else none:=by
  conv=>lhs;unfold Program.keyLits
  simp only[ht,hc,h1,Nat.mul_one]
 rw[e0,NR (by simpa using hs)]
 have hm:∀(m:Nat) (l:Bs) (o:Nat),(s.drop o).take m=l->l.length=m->(range' o m).mapM (fun i=>prog.keyLits (d+1) 5 (((s.map am).drop i).take 1))=some (l.map fun x=>[Lit.int .u8 x.toNat]):=by
  intro m;induction m with
  | zero=>intro l o h hl;simp at hl;subst hl;rfl
  | succ m ih =>
   intro l o h hl
   cases l with
   | nil=>simp at hl
   | cons x r =>
    have ho:o<s.length:=by
     rcases Nat.lt_or_ge o s.length with h'|h'
     ·exact h'
     ·rw[drop_of_length_le h']at h;simp at h
    rw[drop_eq_getElem_cons ho,QE]at h;obtain⟨rfl,hr⟩:=List.cons.inj h
    have e1:((s.map am).drop o).take 1=[am s[o]]:=by
     rw[drop_eq_getElem_cons (show o<(s.map am).length by simpa using ho)];simp only[QE,take_zero,getElem_map]
    have e2:prog.keyLits (d+1) 5 [am s[o]]=some [Lit.int .u8 s[o].toNat]:=by
     have:=UInt8.toNat_lt s[o];have hw:(Lit.int .u8 (s[o].toNat:Int)).wf=true:=by simp[Lit.wf,IntKind.min,IntKind.max,IntKind.bits,IntKind.signed];omega
     simp only[Program.keyLits,underlying5,am];exact NR ⟨trivial,hw⟩
    rw[range'_succ,mapM_cons,e1,e2];rw[ih r (o+1) hr (by simpa using hl)];rfl
 have hf:∀l:Bs,(l.map fun x=>[Lit.int IntKind.u8 (x.toNat:Int)]).flatten=l.map fun x=>Lit.int IntKind.u8 (x.toNat:Int):=fun l=>by
  induction l with
  | nil=>rfl
  | cons x r ih=>rw[map_cons,map_cons,flatten_cons,ih];rfl
 have hm0:=hm n s 0 (by rw[drop_zero];exact take_of_length_le Nb) hs;rw[range_eq_range',hm0,Option.map_some,hf]
theorem Jj{a b:Bs}(h:(a.map fun x=>Lit.int IntKind.u8 x.toNat)=b.map fun x=>Lit.int IntKind.u8 x.toNat):a=b:=by
 induction a generalizing b with
 | nil=>cases b with
  | nil=>rfl
  | cons y r=>simp at h
 | cons x r ih=>cases b with
  | nil=>simp at h
  | cons y s =>
   simp only[map_cons,List.cons.injEq,Lit.int.injEq,true_and]at h;obtain⟨h1,h2⟩:=h;rw[ih h2,UInt8.toNat_inj.1 (show x.toNat=y.toNat by omega)]
theorem oJ{t n:Nat}(ht:prog.underlying t=some (.array n 5))(hc:prog.cellsOf t=n)(hk:prog.keyTypeAt 2 t=true)(hk2:prog.keyType t=true)(hsz:prog.types.size+1=362+1)(a b:Bs)(ha:a.length=n)(hb:b.length=n)(w:World):(Op.equal t (.agg (aw a)) (.agg (aw b))).run prog w=.ok (decide (a=b)) w:=by
 have key:∀s:Bs,s.length=n->keyOf prog t (.agg (aw s))=some (.string (keyBytes (s.map fun x=>Lit.int .u8 x.toNat))):=fun s hs=>by
  unfold keyOf;rw[ht];simp only[hk2,Value.formed,ht,hc,bL,hs,beq_self_eq_true,Bool.and_self,if_true];rw[hsz];show(prog.keyLits (362-1+2) t (aw s).toList).map _=_;rw[show(aw s).toList=s.map am from rfl,pQ ht hc _ s hs];rfl
 obtain⟨r,hr,hiff⟩:=run_equal_deep w (m:=2) Nk hk (by rw[ht]) (key a ha) (key b hb);rw[hr];congr 1;rw[Bool.eq_iff_iff,hiff,decide_eq_true_iff];constructor
 ·intro e;have e':keyBytes (a.map fun x=>Lit.int .u8 x.toNat)=keyBytes (b.map fun x=>Lit.int .u8 x.toNat):=by simpa using e
  exact Jj (Go.keyLits_inj (pQ ht hc 0 a ha) (pQ ht hc 0 b hb) e')
 ·rintro rfl;rfl
theorem EP{t n:Nat}(ht:prog.underlying t=some (.array n 5))(hc:prog.cellsOf t=n)(hk:prog.keyTypeAt 2 t=true)(hk2:prog.keyType t=true)(hsz:prog.types.size+1=362+1)(a b:Bs)(ha:a.length=n)(hb:b.length=n)(w:World):(binOp .neq t (.agg (aw a)) (.agg (aw b))).run prog w=.ok (.bool (!decide (a=b))) w:=by
 simp only[binOp,Sem.run_bind,oJ ht hc hk hk2 hsz a b ha hb w,Result.andThen_ok,Sem.run_pure]
theorem KB{t n:Nat}(ht:prog.underlying t=some (.array n 5))(hc:prog.cellsOf t=n)(hk:prog.keyTypeAt 2 t=true)(hk2:prog.keyType t=true)(hsz:prog.types.size+1=362+1)(a b:Bs)(ha:a.length=n)(hb:b.length=n)(w:World):(binOp .eql t (.agg (aw a)) (.agg (aw b))).run prog w=.ok (.bool (decide (a=b))) w:=by
 simp only[binOp,Sem.run_bind,oJ ht hc hk hk2 hsz a b ha hb w,Result.andThen_ok,Sem.run_pure]
theorem xi(a b:Bs)(ha:a.length=128)(hb:b.length=128)(w:World):(binOp .neq 42 (.agg (aw a)) (.agg (aw b))).run prog w=.ok (.bool (!decide (a=b))) w :=
 EP underlying42 Nc Nc Nc Nc a b ha hb w
theorem ER(a b:Bs)(ha:a.length=128)(hb:b.length=128)(w:World):(binOp .neq 43 (.agg (aw a)) (.agg (aw b))).run prog w=.ok (.bool (!decide (a=b))) w :=
 EP underlying43 Nc Nc Nc Nc a b ha hb w
theorem EH(a b:Bs)(ha:a.length=128)(hb:b.length=128)(w:World):(binOp .eql 43 (.agg (aw a)) (.agg (aw b))).run prog w=.ok (.bool (decide (a=b))) w :=
 KB underlying43 Nc Nc Nc Nc a b ha hb w
theorem lh{t:Nat}(hg:prog.eqGuardType prog.depth t=false)(b:BinOp)(x y:Operand)(A B:Array Value)(w:World):(eqGuard b t x y (.agg A) (.agg B)).run prog w=.ok () w:=by
 have hp:∀w,Sem.run prog program w=.ok prog w:=fun _=>rfl
 have h1:(!prog.eqGuardType prog.depth t)=true:=by rw[hg];rfl
 cases b<;>first|rfl|(unfold eqGuard;simp only[Bool.not_true,Bool.false_eq_true,if_false,Sem.run_bind,hp,Result.andThen_ok,h1,if_true,Sem.run_pure])
theorem sB{ops:Array Oper}{w:World}{Q:Act->Prop}{a:Act}{op:Oper}{rest:List Oper}(hgd:op.guard=none)(b:BinOp)(t:TypeId)(x y:Operand)(ty:TypeId)(ho:op.op=.binOp b t x y ty)(hg:prog.eqGuardType prog.depth t=false)(A B:Array Value)(v:Value)(hn:(binOp b t (.agg A) (.agg B)).run prog w=.ok v w)(hx:a.eval x=.agg A)(hy:a.eval y=.agg B)(h:wpStill prog ops w Q rest (a.put op.dst v)):wpStill prog ops w Q (op::rest) a:=by
 refine wpStill_step (fun K hK=>?_);have hw:Region.wanted op (yielded ops a.tmps)=true:=by simp[Region.wanted,hgd]
 rw[NR hw];unfold Oper.still execOp;simp only[ho,hx,hy,Sem.run_bind,lh hg,Result.andThen_ok,hn,Oper.stillUpon,Sem.run_pure];exact⟨trivial,hK _ h⟩
theorem mw{ops:Array Oper}{w:World}{Q:Exit->Act->World->Prop}{a:Act}{op:Oper}{rest:List Oper}(hgd:op.guard=none)(b:BinOp)(t:TypeId)(x y:Operand)(ty:TypeId)(ho:op.op=.binOp b t x y ty)(hg:prog.eqGuardType prog.depth t=false)(A B:Array Value)(v:Value)(hn:(binOp b t (.agg A) (.agg B)).run prog w=.ok v w)(hx:a.eval x=.agg A)(hy:a.eval y=.agg B)(h:wpList prog ops Q rest (a.put op.dst v) w):wpList prog ops Q (op::rest) a w:=by
 refine wpList_plain hgd fun K hK=>?_
 unfold Oper.wp execOp;simp only[ho,hx,hy,Sem.run_bind,lh hg,Result.andThen_ok,hn,Sem.run_pure];exact hK _ _ h
theorem BM(ad:Addr)(len cap:Nat)(h:128<=len)(w:World):(Instr.arrayAt 42 (.slice (some ad) len cap)).run prog w=.ok (.pointer (some ad)) w:=by
 have h':¬len<128:=Nb
 unfold Instr.arrayAt;simp[run_underlying underlying42,h']
theorem sA{ops:Array Oper}{w:World}{Q:Act->Prop}{a:Act}{op:Oper}{rest:List Oper}(hgd:op.guard=none)(x:Operand)(ho:op.op=.sliceToArrayPointer 42 x)(ad:Addr)(len cap:Nat)(hl:128<=len)(hx:a.eval x=.slice (some ad) len cap)(h:wpStill prog ops w Q rest (a.put op.dst (.pointer (some ad)))):wpStill prog ops w Q (op::rest) a:=by
 refine wpStill_step (fun K hK=>?_);have hw:Region.wanted op (yielded ops a.tmps)=true:=by simp[Region.wanted,hgd]
 rw[NR hw];unfold Oper.still execOp;simp only[ho,hx,Sem.run_bind,BM ad len cap hl,Result.andThen_ok,Oper.stillUpon,Sem.run_pure];exact⟨trivial,hK _ h⟩
theorem EI:prog.eqGuardType prog.depth 42=false:=Nc
theorem lw:prog.eqGuardType prog.depth 43=false:=Nc
theorem cV(d:Nat)(A:Oq):(aK d A).toList=[Value.pointer (some ⟨d,0,none⟩),.int .i64 A.first,.int .i64 A.count,.int .i64 A.end_]++(A.tail.map am++[.chan (some A.ch)]):=by simp[aK,aw]
theorem tM(d:Nat)(A:Oq)(e:Nat):(aK d A).setIfInBounds 3 (.int .i64 e)=aK d { A with end_:=e }:=by
 apply Array.ext';rw[Array.toList_setIfInBounds,cV,cV];rfl
theorem qX(d:Nat)(A:Oq)(s:Bs)(hs:s.length<=A.tail.length):(spl (aK d A).toList 4 (s.map am)).toArray=aK d { A with tail:=ba A.tail 0 s }:=by
 apply Array.ext';rw[cV];show spl _ 4 _=_;generalize hh:[Value.pointer (some ⟨d,0,none⟩),Value.int .i64 A.first,Value.int .i64 A.count,Value.int .i64 A.end_]=hd;have hl:hd.length=4:=by rw[<- hh];rfl
 unfold spl;rw[take_left' hl,<- hl,<- drop_drop,drop_left' rfl,drop_append_of_le_length (by simpa using hs)];rw[cV];simp[ba,hh]
theorem lp{w w':World}{ab d:Nat}{A A':Oq}{R:HF}(h:Sat w (aq ab d A++R))(hm:N7 (fun k=>k=ab) w w')(hc:w'.heap[ab]?=some (.cells (aK d A') 157 (0,0)))(h1:A'.ch=A.ch)(h2:A'.spare=A.spare):
  Turns (aq ab d A++R) (aq ab d A'++R) w w':=by
 have:=(Turns.refl h).Qa hm hc;unfold aq;rw[h1,h2];exact this
theorem oT{w:World}{ab d:Nat}{A:Oq}{t:TypeId}{fz:Nat×Nat}(h:w.heap[ab]?=some (.cells (aK d A) t fz)):w.rangeAt ab 4 (A.tail.map am):=fun j v hv=>by
 refine aa h (4+j) ?_
 rw[<- Array.getElem?_toList,cV,getElem?_append_right Nh]
 rw[getElem?_append_left (by have:=(List.getElem?_eq_some_iff.1 hv).1;simpa[Nat.add_sub_cancel_left]using this)]
 simpa[Nat.add_sub_cancel_left]using hv
theorem j8(d:Nat)(A:Oq):(aK d A).size=A.tail.length+5:=by simp[aK,bL];omega
theorem D7(L:List Value)(o:Nat)(v:List Value):splice L o v=spl L o v:=by simp[splice,spl]
theorem CJ(d:Nat)(A:Oq)(e:Nat)(s t:Bs)(hs:s.length<=128)(ht:t=s++an (128-s.length)):
  (splice (aK d { A with end_:=e,tail:=an 128 }).toList 4 (s.map am)).toArray=aK d { A with end_:=e,tail:=t }:=by
 have e2:ba (an 128) 0 s=t:=by
  rw[ht];unfold ba;rw[take_zero,nil_append,Nat.zero_add];congr 1;unfold an;rw[drop_replicate]
 rw[D7,qX d { A with end_:=e,tail:=an 128 } s (by rw[ap];exact hs),e2]
def gc(l:Bs)(first q:Nat)(t:Bs):Nat->Bs
 | 0=>l
 | m+1=>ba (gc l first q t m) (128*(first+q+m)) (if m=0 then t else an 128)
theorem jH{l t:Bs}{n first q:Nat}(hl:l.length=128*n)(ht:t.length=128)(m:Nat)(h:first+q+m<=n):(gc l first q t m).length=128*n:=by
 induction m with
 | zero=>exact hl
 | succ m ih =>
  rw[gc,jN]
  ·exact ih Nb
  ·rw[ih Nb];split<;>simp[ht,ap]<;>omega
def xX(ab d:Nat)(A:Oq)(L:Ol)(end_:Nat)(ws:Bs)(w:World)(e:Ending)(w':World):Prop :=
 e=.returned .nilIface/\∃L',Turns (aq ab d A++aA d L) (aq ab d { A with end_:=end_,tail:=((ws.take end_).drop (128*(end_ / 128))++an (128-end_%128)) }++aA d L') w w'/\Ou L'/\L'.n=L.n /\
  L'.now=gc L.now A.first (end_ / 128) ((ws.take end_).drop (128*(end_ / 128))++an (128-end_%128)) (A.count-end_ / 128)/\L'.safe=L'.now/\L'.N8=[]
theorem nU:prog.built 43 []=some (aw (an 128)):=Nc
def cd(t:Bs)(m:Nat):Bs:=if m=0 then t else an 128
theorem fH{t:Bs}(ht:t.length=128)(m:Nat):(cd t m).length=128:=by unfold cd;split;exact ht;exact ap _
def tr(ab d T:Nat)(A A1:Oq)(L:Ol)(q:Nat)(t:Bs)(w:World)(i:Value)(wr:World):Prop :=
 ∃(m:Nat) (L':Ol),q+m<=A.count/\i=.int .i64 ((q+m:Nat):Int)/\Turns (aq ab d A++aA d L) ((T,Is (.cells (aw (cd t m)) 43 (0,0)))::(aq ab d A1++aA d L')) w wr /\
  Ou L'/\L'.n=L.n/\L'.now=gc L.now A.first q t m/\L'.N8.length<=L.N8.length+m
theorem qa{ab d:Nat}{A A1:Oq}{L:Ol}{q:Nat}{t:Bs}{w w3:World}(hq:q<=A.count)(hT:Turns (aq ab d A++aA d L) (aq ab d A1++aA d L) w w3)(hL:Ou L)(ht:t.length=128):
  tr ab d w3.heap.size A A1 L q t w (.int .i64 q) ((w3.alloc (.cells eJ 43)).setCells w3.heap.size 0 (t.map am)):=by
 obtain⟨h1,h2⟩:=dr (aM w3 (.cells (aw (an 128)) 43)) (s:=t) (by rw[ht,ap]);exact⟨0,L,hq,rfl,(hT.Q9 (.cells (aw (an 128)) 43)).Qa h2 h1,hL,rfl,rfl,Nat.le_refl _⟩
theorem DM{l s:Bs}{o:Nat}(h:(l.drop o).take s.length=s)(_:o+s.length<=l.length):ba l o s=l:=by
 unfold ba
 have e:l.drop o=s++l.drop (o+s.length):=by
  rw[<- take_append_drop s.length (l.drop o),h,drop_drop]
 rw[NV,<- e,take_append_drop]
theorem BR{l t:Bs}{n first q:Nat}(hl:l.length=128*n)(ht:t.length=128)(k:Nat):∀m,first+q+m<=n->first+q+m<=k->aN (gc l first q t m) k=aN l k:=by
 intro m;induction m with
 | zero=>intro _ _;rfl
 | succ m ih =>
  intro h1 h2;rw[gc,<- ih Nb Nb];have hw:(if m=0 then t else an 128).length=128:=fH ht m;have hlen:=jH hl ht (q:=q) (first:=first) m Nb;unfold aN ba;congr 1;rw[drop_append,drop_of_length_le (by simp[hw];omega),nil_append,drop_drop];congr 1;simp only[NM,NS,hw,hlen];omega
theorem Ao{ab d T:Nat}{A A1:Oq}{L L':Ol}{q m:Nat}{t:Bs}{w wr w4:World}(hT:Turns (aq ab d A++aA d L) ((T,Is (.cells (aw (cd t m)) 43 (0,0)))::(aq ab d A1++aA d L')) w wr)(hL':Ou L')(hn:L'.n=L.n)(OY:L'.now=gc L.now A.first q t m)(hch:L'.N8.length<=L.N8.length+m)(hm:q+m<A.count)(hA:A.first+A.count<=L.n)(hLn:L.now.length=128*L.n)(ht:t.length=128)(heq:aN L.now (A.first+(q+m))=cd t m)(hs:w4=(wr.drew.setCells T 0 ((an 128).map am)))(i:Value)(hi:i=.int .i64 (((q+m:Nat):Int)+1)):tr ab d T A A1 L q t w i w4:=by
 have hTd:=hT.drew;have hb:=hTd.sat.Q5;obtain⟨h1,h2⟩:=dr hb (s:=an 128) (by rw[ap,fH ht]);subst hs;refine⟨m+1,L',Nb,by rw[hi];congr 1,?_,hL',hn,?_,Nb⟩
 ·rw[show cd t (m+1)=an 128 from rfl];exact hTd.Qa h2 h1
 ·rw[gc,OY];have hw:=fH ht m;refine(DM (s:=cd t m) ?_ ?_).symm
  ·have:=BR hLn ht (A.first+(q+m)) (first:=A.first) (q:=q) m Nb Nb;rw[hw,show A.first+q+m=A.first+(q+m) by omega];rw[heq]at this;exact this
  ·rw[hw,jH hLn ht m Nb];omega
theorem wX{ab d T:Nat}{A A1:Oq}{L L' L2:Ol}{q m:Nat}{t:Bs}{w wr w4 w5:World}(hT:Turns (aq ab d A++aA d L) ((T,Is (.cells (aw (cd t m)) 43 (0,0)))::(aq ab d A1++aA d L')) w wr)(hW:Turns (aA d L') (aA d L2) wr.drew.drew w4)(hL2:Ou L2)(hn:L'.n=L.n)(hn2:L2.n=L'.n)(OY:L'.now=gc L.now A.first q t m)(OQ:L2.now=ba L'.now (128*(A.first+(q+m))) (cd t m))(hch:L'.N8.length<=L.N8.length+m)(O9:L2.N8.length=L'.N8.length+1)(hm:q+m<A.count)(ht:t.length=128)(hs:w5=w4.setCells T 0 ((an 128).map am))(i:Value)(hi:i=.int .i64 (((q+m:Nat):Int)+1)):tr ab d T A A1 L q t w i w5:=by
 have p:∀X:HF,((T,Is (.cells (aw (cd t m)) 43 (0,0)))::(aq ab d A1++X)).Perm (X++((T,Is (.cells (aw (cd t m)) 43 (0,0)))::aq ab d A1)):=fun X =>
  (perm_append_comm (l₁:=(T,Is (.cells (aw (cd t m)) 43 (0,0)))::aq ab d A1) (l₂:=X))
 have hTd:=hT.drew.drew;have h4:=hTd.trans ((hW.frame (hTd.sat.perm (p _))).perm (p _).symm (p _).symm);obtain⟨h1,h2⟩:=dr h4.sat.Q5 (s:=an 128) (by rw[ap,fH ht]);subst hs;refine⟨m+1,L2,Nb,by rw[hi];congr 1,?_,hL2,Nb,?_,Nb⟩
 ·rw[show cd t (m+1)=an 128 from rfl];exact h4.Qa h2 h1
 ·rw[OQ,OY,gc,show A.first+(q+m)=A.first+q+m by omega];rfl
theorem EC{F:HF}{ab d T:Nat}{A1:Oq}{φ:Obj->Prop}{L' L2:Ol}{w wr w4:World}(hT:Turns F ((T,φ)::(aq ab d A1++aA d L')) w wr)(hF:Turns (aA d L') (aA d L2) wr w4):Turns F (aq ab d A1++aA d L2) w w4:=by
 have p:∀X:HF,((T,φ)::(aq ab d A1++X)).Perm (X++((T,φ)::aq ab d A1)):=fun X=>(perm_append_comm (l₁:=(T,φ)::aq ab d A1) (l₂:=X))
 have h4:=hT.trans ((hF.frame (hT.sat.perm (p _))).perm (p _).symm (p _).symm);exact Turns.right (G:=[(T,φ)]) h4
theorem Np{p:Prop}(h:p:=by rw[NP];omega):p:=h
theorem qP(ab d:Nat)(A:Oq)(L:Ol)(end_:Nat)(a:Option Addr)(cap:Nat)(ws:Bs)(w:World)(h:Sat w (aq ab d A++aA d L))(hL:Ou L)(hA:A.first+A.count<=L.n)(hn:L.n<=1073741824)(hao:Ov A)(hw:ak w a (ws.map am))(hne:∀x,a=some x->x.block∉dom (aq ab d A++aA d L))(hwl:ws.length=128*A.count)(hcap:ws.length<=cap)(hcap2:cap<=9223372036854775807)(hpos:0<A.count)(he:end_<=128*A.count)(hch:L.N8.length<=137438953472)(hok:∀m,end_ / 128+m<A.count->aN ws (end_ / 128+m)=(if m=0 then((ws.take end_).drop (128*(end_ / 128))++an (128-end_%128))else an 128)->aN L.now (A.first+(end_ / 128+m))=(if m=0 then((ws.take end_).drop (128*(end_ / 128))++an (128-end_%128))else an 128)):
  Calls prog 56 #[.pointer (some ⟨ab,0,none⟩),.int .i64 end_,.slice a ws.length cap] w (xX ab d A L end_ ws w):=by
 unfold xX;obtain⟨g,off,rfl,_⟩:=hw Np;have hab:=iu h;have c3:=aa hab 3 (nG d A);have f3:=aY hab 3;have Us:(w.setCell ⟨ab,3,none⟩ (.int .i64 end_)).heap[ab]?=some (.cells (aK d { A with end_:=end_ }) 157 (0,0)):=by rw[bq hab 3,tM]
 have hT1:=lp h ((N7.refl (fun k=>k=ab) w).set1 (i:=3) (.int .i64 end_)) Us rfl rfl;obtain⟨hs4,hm4⟩:=fp (C:=(aK d { A with end_:=end_ }).toList) (by simpa using Us) 4 ((an 128).map am) (by rw[NP,ap,Array.length_toList,j8,hao.tail];omega);rw[qX _ _ _ (by show _<=A.tail.length;rw[ap,hao.tail];omega)]at hs4;have qat:(w.setCell ⟨ab,3,none⟩ (.int .i64 end_)).there ab 4 128:=dA Us 4 128 (by rw[j8];show _<=A.tail.length+5;rw[hao.tail];omega);have hpf:ba A.tail 0 (an 128)=an 128:=by simp[ba,ap,hao.tail]
 simp only[hpf]at hs4;have hT2:=hT1.trans (lp (A':={ A with end_:=end_,tail:=an 128 }) hT1.sat hm4 hs4 rfl rfl);obtain⟨q,hq⟩:∃q,end_ / 128=q:=⟨_,rfl⟩;obtain⟨r,hr⟩:∃r,end_%128=r:=⟨_,rfl⟩;obtain⟨lo,hlo⟩:∃lo,128*q=lo:=⟨_,rfl⟩;have hrl:r<128:=Nb
 have hle:lo+r=end_:=Nb
 have hwe:end_<=ws.length:=Nb
 have i1:((end_:Int)%128)=(r:Int):=Nb
 have i2:((end_:Int) / 128)=(q:Int):=Nb
 have i3:((end_:Int)-(r:Int))=(lo:Int):=Nb
 have hcs:((ws.drop lo).take r).length=r:=Nj
 rw[hq,hr]at hok ⊢;have RN:=RV hwl hq hr hlo hle hcs;have hlow:lo<=end_:=Nb
 have hqc:q<=A.count:=Nb
 clear hwl hq hr hlo hle hcs;have H:=Uh h hL hw hne hok hT2 hs4 qat;have HZ:=NZ nU;have hz:=mx;clear h hL hw hne hok hT1 hT2 hs4 hm4 Us qat hab;go_enter func56,ntmps56;go_wp2_with (first|(refine bT rfl 43 #[] rfl (aw (an 128)) HZ.o ?_)|(refine wpList_store_mid rfl 43 (.tmp 17) (.tmp 15) rfl ab 4 (aw (an 128)) rfl rfl (by rw[bL,ap];exact H.t) (gU (ap 128)) (cS _) ?_));obtain⟨w2,hw2⟩:=Na ((w.setCell ⟨ab,3,none⟩ (.int .i64 end_)).setCells ab 4 ((an 128).map am));have hT2:=H.f;have hc2:=H.g;rw[<- hw2]at hT2 hc2;change Code.wp _ _ _ _ ((w.setCell ⟨ab,3,none⟩ (.int .i64 end_)).setCells ab 4 ((an 128).map am));rw[<- hw2];have H2:=Ob hT2 hc2;clear hT2 hc2 hw2;have j1:((end_:Int)).tmod 128=(r:Int):=by rw[Int.tmod_eq_emod_of_nonneg Nb];exact i1
 have j2:IntKind.i64.wrap (lo:Int)=(lo:Int):=IntWalk.i64_in _ Nb;have j3:(lo:Int)<=(end_:Int):=Nb
 have j4:(end_:Int)<=(cap:Int):=Nb
 obtain⟨t,ht⟩:=Na ((ws.drop lo).take r++an (128-r):Bs);have htl:t.length=128:=by rw[ht,NM,RN.v,ap];omega
 have htw:t=(ws.take end_).drop (128*q)++an (128-r):=by rw[ht,drop_take,RN.d];congr 2;have:=RN.e;omega
 have hcp:∀w3,w3.heap[ab]?=some (.cells (splice (aK d { A with end_:=end_,tail:=an 128 }).toList 4 (((ws.drop lo).take r).map am)).toArray 157 (0,0))->N7 (fun k=>k=ab) w2 w3 ->
   w3.heap[ab]?=some (.cells (aK d { A with end_:=end_,tail:=t }) 157 (0,0))/\Turns (aq ab d A++aA d L) (aq ab d { A with end_:=end_,tail:=t }++aA d L) w w3:=fun w3 hh hm=>by
  have hc:w3.heap[ab]?=some (.cells (aK d { A with end_:=end_,tail:=t }) 157 (0,0)):=by
   rw[hh,CJ d A end_ _ t (by rw[RN.v];omega) (by rw[RN.v];exact ht)]
  exact⟨hc,(H2.a).trans (lp H2.a.sat hm hc rfl rfl)⟩
 have HT:=Oz htw hcp ht;have qar:(prog.info? 5).map (·.size)=some 1:=Nc
 have WO:=NZ qar;clear htw hcp ht qar;by_cases hcl:cap=lo
 ·have HR0:Hid (r=0):=NZ (by have:=RN.e;omega);have hcl':=hcl.symm;clear hcl;subst hcl';refine wp_region_still_tail 11 HM.o Nc ?_;simp only[QE,take_zero,QD,drop_zero];repeat still_step
  refine wpStill_nil ?_;change wpList _ _ _ _ _ w2.drew;refine gn rfl (.tmp 21) (.tmp 28) 38 38 rfl 5 underlying38 WO.o _ _ _ _ _ _ rfl rfl ab 4 (aK d { A with end_:=end_,tail:=an 128 }).toList 157 (by rw[Array.toArray_toList];exact H2.z) (((ws.drop lo).take r).map am) ?d1 ?d2 ?d3 (dF _) ?d4
  case d1=>rw[NP,RN.v];have:=RN.e;show r=min (end_-lo) 128;omega
  case d2 =>
   intro hp;rw[NP,RN.v]at hp;have:=HR0.o;omega
  case d3=>rw[NP,RN.v];simp[cV,ap];omega
  case d4 =>
   intro w3 hh hm hsz3;clear hsz3;obtain⟨hc3,Oa⟩:=HT.b w3 hh ((N7.refl _ w2).drew.trans hm);have H3:=Ob hc3 Oa;have TK:=NZ htl;clear hc3 Oa hh hm c3 f3 i1 i3 j1 j2 j3 j4 htl;go_wp2_with (first|(refine wpList_load_mid rfl 43 (.tmp 32) rfl ab 4 rfl (t.map am) _ (oT H3.a) underlying43 rfl (gT TK.o) ?_)|(refine wpList_store_mid rfl 43 (.tmp 7) (.tmp 33) rfl w3.heap.size 0 (t.map am).toArray rfl rfl ?d5 (gU TK.o) (cS _) ?_))
   case d5=>exact dA (aM w3 _) 0 _ (by rw[show eJ=aw (an 128)from rfl,bL,ap];simp[TK.o])
   have hst:=qa (q:=q) hqc H3.z H.b TK.o;have hne':H3.o=H3.o:=rfl;generalize Xa:w3.heap.size=T at hst ⊢;generalize (w3.alloc (.cells eJ 43)).setCells T 0 (t.map am)=W0 at hst ⊢;have HST:=NZ hst;clear hst Xa hne' i2;go_loopw [8] (fun i wr=>tr ab d T A { A with end_:=end_,tail:=t } L q t w i wr) (fun i _=>A.count-(intOf i).toNat)
   case atStart=>exact HST.o
   case round =>
    obtain⟨m,L',hqm,rfl,hT',hL',hn',PK,hch'⟩:=hrel;obtain⟨k,hk⟩:∃k,q+m=k:=⟨_,rfl⟩;have hab':=iu hT'.sat.tail;have a0:=aa hab' 0 (lO d _);have a1:=aa hab' 1 (lP d _);have a2:=aa hab' 2 (sV d _);simp only at a1 a2;have TR:=hT'.sat.Q5;by_cases hlt:k<A.count
    ·have hcw:=H.c.keep (w':=wr) hT'.mods (fun g' off' e hin=>H.d _ e hin);obtain⟨g',off',e',hcl'⟩:=hcw (by rw[NP,RN.a];omega);simp only[NY,Addr.mk.injEq,and_true]at e';obtain⟨rfl,rfl⟩:=e';have hws:128*k+128<=ws.length:=by rw[RN.a];omega
     have hrg:wr.rangeAt g (off+k*128) ((aN ws k).map am):=fun j v hv=>by
      obtain⟨hj,rfl⟩:=List.getElem?_eq_some_iff.1 hv;have hj':j<128:=by simp[aN]at hj;omega
      rw[show off+k*128+j=off+(k*128+j) by omega];refine(hcl' (k*128+j) Np).trans ?_;simp[aN,Nat.mul_comm]
     have hsl:(aN ws k).length=128:=by simp[aN];omega
     obtain⟨kk,hkk⟩:∃kk,k*128=kk:=⟨_,rfl⟩;have p1:((k:Int)*128)=(kk:Int):=Nb
     have p2:IntKind.i64.wrap (kk:Int)=(kk:Int):=IntWalk.i64_in _ Nb;have p3:(kk:Int)<=(ws.length:Int):=Nb
     have p4:(ws.length:Int)<=(lo:Int):=Nb
     have p5:¬lo=kk:=Nb
     have p6:128<=ws.length-kk:=Nb
     rw[hkk]at hrg;have hkq:(k:Int)<(A.count:Int):=Nb
     have hwt:=fH TK.o m;have UJ:wr.rangeAt T 0 ((cd t m).map am):=by have:=dX TR 0 128;rwa [drop_zero,take_of_length_le Nb]at this
     have hcmp:=xi (aN ws k) (cd t m) hsl hwt;have HR:=NZ (NK hT' (NK hL' (NK hn' (NK PK (NK hch' (NK hrg (NK UJ (NK hcmp (NK hsl (NK hwt hk))))))))));have HK:=NZ hkk;clear hT' hL' hn' PK hch' hrg UJ hcmp hsl hwt hcl' hcw TR hab' hkk hqm;simp only[hk];clear hk HST;have hal:ab<wr.heap.size:=World.block_lt_of_cell? wr _ a0;go_wp2_with fail;refine wp_region_still_lit HM.o Nc ?_;repeat still_step
     refine sA rfl (.tmp 47) rfl _ _ _ p6 rfl ?_;refine cC rfl 42 (.tmp 48) rfl g (off+kk) rfl ((aN ws k).map am) _ HR.f underlying42 rfl (by rw[NP,HR.q.a];kernel_rfl) ?_;refine cC rfl 43 (.tmp 7) rfl T 0 rfl ((cd t m).map am) _ HR.g underlying43 rfl (gT HR.q.b) ?_;refine sB rfl .neq 42 (.tmp 49) (.tmp 50) _ rfl EI _ _ _ (HR.h _) rfl rfl ?_;refine wpStill_nil ?_;change Exit.then _ _ _ _ wr.drew
     simp only[Act.put,QA,QB,QC];by_cases heq:aN ws k=cd t m
     ·have hd0:(!decide (aN ws k=cd t m))=false:=by simp[heq]
      have hok:=H.e m;rw[HR.q.y]at hok;have hth:wr.drew.there T 0 128:=(World.there_drew _ _ _ _).2 (eT HR.a.sat.Q5 0 128 (by rw[HR.q.b];omega));have hsk:=fun w4 hs i hi=>Ao (w4:=w4) HR.a HR.b HR.c HR.d HR.e (by rw[HR.q.y];omega) hA H.b.OU TK.o (by rw[HR.q.y];exact(hok Nb (heq.trans (by rw[<- HT.a];rfl))).trans (by rw[<- HT.a];rfl)) hs i hi
      have HSK:=NZ hsk;have XI:=NZ hth;rw[hd0];clear hok hth hsk heq p5 p6 hd0;go_wp2_with (first|(refine bT rfl 43 #[] rfl (aw (an 128)) HZ.o ?_)|(refine wpList_store_mid rfl 43 (.tmp 7) (.tmp 67) rfl T 0 (aw (an 128)) rfl rfl ?d6 (gU (ap 128)) (cS _) ?_))
      case d6=>rw[bL,ap];exact XI.o
      go_roundw
      case rel=>exact HSK.o _ rfl _ (by rw[HR.q.y])
      case measure=>simp[intOf];omega
     ·have hd0:(!decide (aN ws k=cd t m))=true:=by simp[heq]
      have a0':wr.drew.cell? ⟨ab,0,none⟩=some (.pointer (some ⟨d,0,none⟩)):=a0;have a1':wr.drew.cell? ⟨ab,1,none⟩=some (.int .i64 A.first):=a1;have q1:IntKind.i64.wrap ((A.first:Int)+(k:Int))=(A.first:Int)+(k:Int):=IntWalk.i64_in _ Nb;have Vw:wr.drew.rangeAt T 0 ((cd t m).map am):=(World.rangeAt_drew _ _ _ _).2 HR.g;have HT2:=NZ Vw
      have HWr:Hid (∀W,Sat W (aA d L')->Calls prog 18 #[.pointer (some ⟨d,0,none⟩),.int .i64 ((A.first:Int)+k),.agg ((cd t m).map am).toArray] W (jS d L' (A.first+k) (cd t m) W)):=NZ (fun W hW=>by
       have:=ie d L' (A.first+k) (cd t m) W hW HR.b (by rw[HR.c];omega) HR.q.b (by have:=HR.e;have:=HR.q.y;omega);exact this)
      rw[hd0];clear heq p5 p6 hd0 Vw;obtain⟨wd,hwd⟩:=Na wr.drew;rw[<- hwd]at a0' a1' HT2 ⊢;have Y8:=NZ hwd;clear hwd;go_wp2_with fail;refine wp_region_still_tail 11 HM.o Nc ?_;simp only[QE,take_zero,QD,drop_zero];iterate 10 still_step
      refine cC rfl 43 (.tmp 7) rfl T 0 rfl ((cd t m).map am) _ HT2.o underlying43 rfl (gT HR.q.b) ?_;refine wpStill_nil ?_;simp only[Act.put,QA,QB,QC];change wpList _ _ _ _ _ wd.drew;go_wp2_with fail;have hsd:Sat wd.drew ((T,Is (.cells (aw (cd t m)) 43 (0,0)))::(aq ab d { A with end_:=end_,tail:=t }++aA d L')):=by rw[Y8.o];exact(HR.a.drew.drew).sat
      refine(HWr.o _ hsd.tail.right).mono ?_;rintro e w4 ⟨rfl,L2,hW,hL2,hn2,OQ,O9⟩;rw[Y8.o]at hW;have Zy:w4.heap[T]?=some (.cells (aw (cd t m)) 43 (0,0)):=hW.mods.at (by have:=(HR.a.drew.drew).sat.Q5;exact this) (fun hin=>(HR.a.drew.drew).sat.notMem (by rw[cM];exact mem_append_right _ hin));have hwr:=fun w5 hs i hi=>wX (w5:=w5) HR.a hW hL2 HR.c hn2 HR.d (by rw[HR.q.y];exact OQ) HR.e O9 (by rw[HR.q.y];omega) TK.o hs i hi
      have HWF:=NZ hwr;have XI:=NZ (eT Zy 0 128 (by rw[HR.q.b];omega));clear hW hL2 hn2 OQ O9 Zy hwr hsd a0' a1' HWr HT2;go_wp2_with (first|(refine bT rfl 43 #[] rfl (aw (an 128)) HZ.o ?_)|(refine wpList_store_mid rfl 43 (.tmp 7) (.tmp 67) rfl T 0 (aw (an 128)) rfl rfl ?d7 (gU (ap 128)) (cS _) ?_))
      case d7=>rw[bL,ap];exact XI.o
      go_roundw
      case rel=>exact HWF.o _ rfl _ (by rw[HR.q.y])
      case measure=>simp[intOf];omega
    ·obtain rfl:k=A.count:=Nb
     have QZ:L'.N8.length<=1099511627776:=Nb
     have VN:Hid (∀W,Sat W (aA d L')->Calls prog 20 #[.pointer (some ⟨d,0,none⟩)] W (lm d L' W)):=NZ (fun W hW=>ib d L' W hW hL' QZ);have HR:=PD hT' hL' hn' PK hk;have hal:ab<wr.heap.size:=World.block_lt_of_cell? wr _ a0;clear hT' hL' hn' PK hch' hab' TR hqm HST;simp only[hk];clear hk;go_wp2_with fail;refine(VN.o _ HR.a.sat.tail.right).mono ?_;rintro e w4 ⟨rfl,L2,hF,hL2,hn2,OQ,Pg,O9⟩;have hfin:=EC HR.a hF;have HFin:=RV hfin hL2 hn2 OQ Pg O9;clear hfin hF hL2 hn2 OQ Pg O9;go_wp2_with fail;go_ret;obtain⟨hfin,hL2,hn2,OQ,Pg,O9⟩:=HFin.o;have hm:m=A.count-q:=by have:=HR.w;omega
     rw[<- RN.d]at *
     refine⟨rfl,L2,?_,hL2,hn2.trans HR.c,?_,Pg.trans OQ.symm,O9⟩
     ·rw[<- HT.a];exact hfin
     ·rw[OQ,HR.d,hm,HT.a]
 ·refine wp_region_still_tail 11 HM.o Nc ?_;simp only[QE,take_zero,QD,drop_zero];repeat still_step
  refine wpStill_nil ?_;change wpList _ _ _ _ _ w2.drew;refine gn rfl (.tmp 21) (.tmp 28) 38 38 rfl 5 underlying38 WO.o _ _ _ _ _ _ rfl rfl ab 4 (aK d { A with end_:=end_,tail:=an 128 }).toList 157 (by rw[Array.toArray_toList];exact H2.z) (((ws.drop lo).take r).map am) ?c1 ?c2 ?c3 (dF _) ?c4
  case c1=>rw[NP,RN.v];have:=RN.e;show r=min (end_-lo) 128;omega
  case c2 =>
   intro hp;rw[NP,RN.v]at hp;refine⟨rfl,⟨g,off+lo,none⟩,by simp[],fun j v hv=>?_⟩;obtain⟨hj,rfl⟩:=List.getElem?_eq_some_iff.1 hv;have hj':j<r:=by rw[NP,RN.v]at hj;exact hj
   rw[Addr.add_lit];have hne:=H.d _ rfl
   have hcw:=ak.keep (w':=w2) H.c H2.a.mods (fun g' off' e hin=>by
    simp only[NY,Addr.mk.injEq,and_true]at e;exact hne (e.1 ▸ hin))
   obtain⟨g',off',e,hc'⟩:=hcw (by simp;have:=RN.e;omega);simp only[NY,Addr.mk.injEq,and_true]at e;obtain⟨rfl,rfl⟩:=e;rw[show off+lo+j=off+(lo+j) by omega];refine(hc' (lo+j) (by simp;have:=RN.e;omega)).trans ?_;simp
  case c3=>rw[NP,RN.v];simp[cV,ap];omega
  case c4 =>
   intro w3 hh hm hsz3;clear hsz3;obtain⟨hc3,Oa⟩:=HT.b w3 hh ((N7.refl _ w2).drew.trans hm);have H3:=Ob hc3 Oa;have TK:=NZ htl;clear hc3 Oa hh hm c3 f3 i1 i3 j1 j2 j3 j4 htl;go_wp2_with (first|(refine wpList_load_mid rfl 43 (.tmp 32) rfl ab 4 rfl (t.map am) _ (oT H3.a) underlying43 rfl (gT TK.o) ?_)|(refine wpList_store_mid rfl 43 (.tmp 7) (.tmp 33) rfl w3.heap.size 0 (t.map am).toArray rfl rfl ?c5 (gU TK.o) (cS _) ?_))
   case c5=>exact dA (aM w3 _) 0 _ (by rw[show eJ=aw (an 128)from rfl,bL,ap];simp[TK.o])
   have hst:=qa (q:=q) hqc H3.z H.b TK.o;have hne':H3.o=H3.o:=rfl;generalize Xa:w3.heap.size=T at hst ⊢;generalize (w3.alloc (.cells eJ 43)).setCells T 0 (t.map am)=W0 at hst ⊢;have HST:=NZ hst;clear hst Xa hne' i2;go_loopw [8] (fun i wr=>tr ab d T A { A with end_:=end_,tail:=t } L q t w i wr) (fun i _=>A.count-(intOf i).toNat)
   case atStart=>exact HST.o
   case round =>
    obtain⟨m,L',hqm,rfl,hT',hL',hn',PK,hch'⟩:=hrel;obtain⟨k,hk⟩:∃k,q+m=k:=⟨_,rfl⟩;have hab':=iu hT'.sat.tail;have a0:=aa hab' 0 (lO d _);have a1:=aa hab' 1 (lP d _);have a2:=aa hab' 2 (sV d _);simp only at a1 a2;have TR:=hT'.sat.Q5;by_cases hlt:k<A.count
    ·have hcw:=H.c.keep (w':=wr) hT'.mods (fun g' off' e hin=>H.d _ e hin);obtain⟨g',off',e',hcl'⟩:=hcw (by rw[NP,RN.a];omega);simp only[NY,Addr.mk.injEq,and_true]at e';obtain⟨rfl,rfl⟩:=e';have hws:128*k+128<=ws.length:=by rw[RN.a];omega
     have hrg:wr.rangeAt g (off+k*128) ((aN ws k).map am):=fun j v hv=>by
      obtain⟨hj,rfl⟩:=List.getElem?_eq_some_iff.1 hv;have hj':j<128:=by simp[aN]at hj;omega
      rw[show off+k*128+j=off+(k*128+j) by omega];refine(hcl' (k*128+j) Np).trans ?_;simp[aN,Nat.mul_comm]
     have hsl:(aN ws k).length=128:=by simp[aN];omega
     obtain⟨kk,hkk⟩:∃kk,k*128=kk:=⟨_,rfl⟩;have p1:((k:Int)*128)=(kk:Int):=Nb
     have p2:IntKind.i64.wrap (kk:Int)=(kk:Int):=IntWalk.i64_in _ Nb;have p3:(kk:Int)<=(ws.length:Int):=Nb
     have p4:(ws.length:Int)<=(cap:Int):=Nb
     have p5:¬cap=kk:=Nb
     have p6:128<=ws.length-kk:=Nb
     rw[hkk]at hrg;have hkq:(k:Int)<(A.count:Int):=Nb
     have hwt:=fH TK.o m;have UJ:wr.rangeAt T 0 ((cd t m).map am):=by have:=dX TR 0 128;rwa [drop_zero,take_of_length_le Nb]at this
     have hcmp:=xi (aN ws k) (cd t m) hsl hwt;have HR:=NZ (NK hT' (NK hL' (NK hn' (NK PK (NK hch' (NK hrg (NK UJ (NK hcmp (NK hsl (NK hwt hk))))))))));have HK:=NZ hkk;clear hT' hL' hn' PK hch' hrg UJ hcmp hsl hwt hcl' hcw TR hab' hkk hqm;simp only[hk];clear hk HST;have hal:ab<wr.heap.size:=World.block_lt_of_cell? wr _ a0;go_wp2_with fail;refine wp_region_still_lit HM.o Nc ?_;repeat still_step
     refine sA rfl (.tmp 47) rfl _ _ _ p6 rfl ?_;refine cC rfl 42 (.tmp 48) rfl g (off+kk) rfl ((aN ws k).map am) _ HR.f underlying42 rfl (by rw[NP,HR.q.a];kernel_rfl) ?_;refine cC rfl 43 (.tmp 7) rfl T 0 rfl ((cd t m).map am) _ HR.g underlying43 rfl (gT HR.q.b) ?_;refine sB rfl .neq 42 (.tmp 49) (.tmp 50) _ rfl EI _ _ _ (HR.h _) rfl rfl ?_;refine wpStill_nil ?_;change Exit.then _ _ _ _ wr.drew
     simp only[Act.put,QA,QB,QC];by_cases heq:aN ws k=cd t m
     ·have hd0:(!decide (aN ws k=cd t m))=false:=by simp[heq]
      have hok:=H.e m;rw[HR.q.y]at hok;have hth:wr.drew.there T 0 128:=(World.there_drew _ _ _ _).2 (eT HR.a.sat.Q5 0 128 (by rw[HR.q.b];omega));have hsk:=fun w4 hs i hi=>Ao (w4:=w4) HR.a HR.b HR.c HR.d HR.e (by rw[HR.q.y];omega) hA H.b.OU TK.o (by rw[HR.q.y];exact(hok Nb (heq.trans (by rw[<- HT.a];rfl))).trans (by rw[<- HT.a];rfl)) hs i hi
      have HSK:=NZ hsk;have XI:=NZ hth;rw[hd0];clear hok hth hsk heq p5 p6 hd0;go_wp2_with (first|(refine bT rfl 43 #[] rfl (aw (an 128)) HZ.o ?_)|(refine wpList_store_mid rfl 43 (.tmp 7) (.tmp 67) rfl T 0 (aw (an 128)) rfl rfl ?c6 (gU (ap 128)) (cS _) ?_))
      case c6=>rw[bL,ap];exact XI.o
      go_roundw
      case rel=>exact HSK.o _ rfl _ (by rw[HR.q.y])
      case measure=>simp[intOf];omega
     ·have hd0:(!decide (aN ws k=cd t m))=true:=by simp[heq]
      have a0':wr.drew.cell? ⟨ab,0,none⟩=some (.pointer (some ⟨d,0,none⟩)):=a0;have a1':wr.drew.cell? ⟨ab,1,none⟩=some (.int .i64 A.first):=a1;have q1:IntKind.i64.wrap ((A.first:Int)+(k:Int))=(A.first:Int)+(k:Int):=IntWalk.i64_in _ Nb;have Vw:wr.drew.rangeAt T 0 ((cd t m).map am):=(World.rangeAt_drew _ _ _ _).2 HR.g;have HT2:=NZ Vw
      have HWr:Hid (∀W,Sat W (aA d L')->Calls prog 18 #[.pointer (some ⟨d,0,none⟩),.int .i64 ((A.first:Int)+k),.agg ((cd t m).map am).toArray] W (jS d L' (A.first+k) (cd t m) W)):=NZ (fun W hW=>by
       have:=ie d L' (A.first+k) (cd t m) W hW HR.b (by rw[HR.c];omega) HR.q.b (by have:=HR.e;have:=HR.q.y;omega);exact this)
      rw[hd0];clear heq p5 p6 hd0 Vw;obtain⟨wd,hwd⟩:=Na wr.drew;rw[<- hwd]at a0' a1' HT2 ⊢;have Y8:=NZ hwd;clear hwd;go_wp2_with fail;refine wp_region_still_tail 11 HM.o Nc ?_;simp only[QE,take_zero,QD,drop_zero];iterate 10 still_step
      refine cC rfl 43 (.tmp 7) rfl T 0 rfl ((cd t m).map am) _ HT2.o underlying43 rfl (gT HR.q.b) ?_;refine wpStill_nil ?_;simp only[Act.put,QA,QB,QC];change wpList _ _ _ _ _ wd.drew;go_wp2_with fail;have hsd:Sat wd.drew ((T,Is (.cells (aw (cd t m)) 43 (0,0)))::(aq ab d { A with end_:=end_,tail:=t }++aA d L')):=by rw[Y8.o];exact(HR.a.drew.drew).sat
      refine(HWr.o _ hsd.tail.right).mono ?_;rintro e w4 ⟨rfl,L2,hW,hL2,hn2,OQ,O9⟩;rw[Y8.o]at hW;have Zy:w4.heap[T]?=some (.cells (aw (cd t m)) 43 (0,0)):=hW.mods.at (by have:=(HR.a.drew.drew).sat.Q5;exact this) (fun hin=>(HR.a.drew.drew).sat.notMem (by rw[cM];exact mem_append_right _ hin));have hwr:=fun w5 hs i hi=>wX (w5:=w5) HR.a hW hL2 HR.c hn2 HR.d (by rw[HR.q.y];exact OQ) HR.e O9 (by rw[HR.q.y];omega) TK.o hs i hi
      have HWF:=NZ hwr;have XI:=NZ (eT Zy 0 128 (by rw[HR.q.b];omega));clear hW hL2 hn2 OQ O9 Zy hwr hsd a0' a1' HWr HT2;go_wp2_with (first|(refine bT rfl 43 #[] rfl (aw (an 128)) HZ.o ?_)|(refine wpList_store_mid rfl 43 (.tmp 7) (.tmp 67) rfl T 0 (aw (an 128)) rfl rfl ?c7 (gU (ap 128)) (cS _) ?_))
      case c7=>rw[bL,ap];exact XI.o
      go_roundw
      case rel=>exact HWF.o _ rfl _ (by rw[HR.q.y])
      case measure=>simp[intOf];omega
    ·obtain rfl:k=A.count:=Nb
     have QZ:L'.N8.length<=1099511627776:=Nb
     have VN:Hid (∀W,Sat W (aA d L')->Calls prog 20 #[.pointer (some ⟨d,0,none⟩)] W (lm d L' W)):=NZ (fun W hW=>ib d L' W hW hL' QZ);have HR:=PD hT' hL' hn' PK hk;have hal:ab<wr.heap.size:=World.block_lt_of_cell? wr _ a0;clear hT' hL' hn' PK hch' hab' TR hqm HST;simp only[hk];clear hk;go_wp2_with fail;refine(VN.o _ HR.a.sat.tail.right).mono ?_;rintro e w4 ⟨rfl,L2,hF,hL2,hn2,OQ,Pg,O9⟩;have hfin:=EC HR.a hF;have HFin:=RV hfin hL2 hn2 OQ Pg O9;clear hfin hF hL2 hn2 OQ Pg O9;go_wp2_with fail;go_ret;obtain⟨hfin,hL2,hn2,OQ,Pg,O9⟩:=HFin.o;have hm:m=A.count-q:=by have:=HR.w;omega
     rw[<- RN.d]at *
     refine⟨rfl,L2,?_,hL2,hn2.trans HR.c,?_,Pg.trans OQ.symm,O9⟩
     ·rw[<- HT.a];exact hfin
     ·rw[OQ,HR.d,hm,HT.a]
def bD(e wh:Nat):Bs:=be e 4++be wh 4
def bO(e wh:Nat):Bs:=frame 77 (bD e wh)++an 111
theorem ce(e wh:Nat):(bD e wh).length=8:=by simp[bD,cf]
theorem co(e wh:Nat):(bO e wh).length=128:=by rw[bO,NM,bi,ce,ap]
theorem tU(n:Nat)(hn:n<4294967296):(be n 4).map am=[.int .u8 ((n:Int) / 16777216),.int .u8 ((n:Int) / 65536%256),.int .u8 ((n:Int) / 256%256),.int .u8 ((n:Int)%256)]:=by
 simp only[be,map_cons,map_nil,am,UInt8.toNat_ofNat'];have e1:((n / 256 ^ 3%2 ^ 8:Nat):Int)=(n:Int) / 16777216:=Nb
 have e2:((n / 256 ^ 2%2 ^ 8:Nat):Int)=(n:Int) / 65536%256:=Nb
 have e3:((n / 256 ^ 1%2 ^ 8:Nat):Int)=(n:Int) / 256%256:=Nb
 have e4:((n / 256 ^ 0%2 ^ 8:Nat):Int)=(n:Int)%256:=Nb
 rw[e1,e2,e3,e4]
theorem ik(w:World)(xs:List Value)(t:TypeId):∀j u,xs[j]?=some u->(w.alloc (.cells xs.toArray t)).cell? ((⟨w.heap.size,0,none⟩:Addr).add j)=some u:=fun j u hu=>by
 rw[Addr.add_mid,Nat.zero_add];exact aa (aM w _) j (by simpa using hu)
theorem ru{w:World}{b e n:Nat}{v:Value}{xs:List Value}(h:w.ownsRow b e 1 v n xs):∃a cap,v=.slice a n cap/\xs.length=n/\n<=cap/\ak w a xs/\∀x,a=some x->v.ownBlock=some x.block:=by
 have hl:xs.length=n:=by simpa using h.1
 rcases h.2 with⟨rfl,rfl⟩|⟨g,cap,cur,rfl,hb,hg,hnc,hcm,hcs,htk⟩
 ·exact⟨none,0,rfl,hl,Nat.le_refl _,fun hp=>by omega,fun x hx=>by cases hx⟩
 ·refine⟨_,cap,rfl,hl,hnc,fun _=>⟨g,0,rfl,fun j hj=>?_⟩,fun x hx=>by simp at hx;subst hx;rfl⟩;rw[Nat.zero_add];refine aa hg j ?_;have:(cur.toList.take (n*1))[j]?=some xs[j]:=by rw[htk];simp[hj]
  rw[getElem?_take]at this;split at this
  ·simpa using this
  ·cases this
theorem Ek{P:Program}{w:World}{o:Oper}{a:Act}{K:Act->World->Prop}{Q:Exit->Act->World->Prop}(d s:Operand)(dT sT:TypeId)(ho:o.op=.call { callee:=.builtin .copy,args:=#[d,s],argTypes:=#[dT,sT] })(elem:TypeId)(hu:P.underlying dT=some (.slice elem))(hsz:(P.info? elem).map (·.size)=some 1)(dp sp:Option Addr)(dLen dCap sLen sCap:Nat)(hd:a.eval d=.slice dp dLen dCap)(hs:a.eval s=.slice sp sLen sCap)(g off:Nat)(cur:List Value)(t:TypeId)(hg:w.heap[g]?=some (.cells cur.toArray t (0,0)))(cs:List Value)(hn:cs.length=Nat.min sLen dLen)(hpos:0<cs.length->dp=some ⟨g,off,none⟩/\∃ad,sp=some ad/\∀j v,cs[j]?=some v->w.cell? (ad.add j)=some v)(hfit:off+cs.length<=cur.length)(h1:∀v∈cs,v.oneCell'=true)(h:∀w',w'.heap[g]?=some (.cells (splice cur off cs).toArray t (0,0))->N7 (fun k=>k=g) w w'->K (a.put o.dst (goInt cs.length)) w'):Oper.wp P o a w K Q:=by
 by_cases h0:cs.length=0
 ·obtain rfl:cs=[]:=eq_nil_of_length_eq_zero h0;have hrun:=run_copy_none (P:=P) w dT sT o.type elem dp sp dLen dCap sLen sCap hu hsz (by simpa using hn.symm);unfold Oper.wp;simp[execOp,ho,resolve,invoke,builtin,hd,hs,hrun,Result.andThen];exact h w (by simpa[splice]using hg) (N7.refl _ _)
 ·obtain⟨rfl,ad,rfl,hsrc⟩:=hpos Nb;have hrun:=run_copy_row (P:=P) w dT sT o.type elem g off dLen dCap ad sLen sCap cur.toArray t cs hu hsz hg hn hsrc (by simpa using hfit) h1;unfold Oper.wp;simp[execOp,ho,resolve,invoke,builtin,hd,hs,hrun,Result.andThen];refine h _ ?_ ?_
  ·simpa[splice]using setRow_heap w g _ _ t _ hg
  ·exact N7.setRow (S:=fun k=>k=g) (N7.refl _ _) (.inl rfl) _
def Ig(e wh:Nat)(w:World)(v i:Value)(wr:World):Prop :=
 ∃k:Nat,k<=2/\i=.int .i64 k/\PE v ((bD e wh).take (4*k)) /\
  Turns [] (aJ v ((bD e wh).take (4*k))++[(w.heap.size+2,Is (.cells eJ 43 (0,0))),(w.heap.size+1,Is (.cells eJ 43 (0,0)))]) w wr
theorem su{e wh:Nat}{w wr w3:World}{v v':Value}{k x:Nat}{o:Obj}{ys:List Value}(_:x<4294967296)(hk:k<2)(hs:(bD e wh).take (4*(k+1))=(bD e wh).take (4*k)++be x 4)(hT:Turns [] (aJ v ((bD e wh).take (4*k))++[(w.heap.size+2,Is (.cells eJ 43 (0,0))),(w.heap.size+1,Is (.cells eJ 43 (0,0)))]) w wr)(hy:ys=(be x 4).map am)(hown:w3.ownsRow 0 5 1 v' (((bD e wh).take (4*k)).length+4) (((bD e wh).take (4*k)).map am++ys))(hgrow:(wr.alloc o).grownBy w3 v.ownBlock)(hg:∀g,v'.ownBlock=some g->v.ownBlock=some g\/(wr.alloc o).heap.size<=g)(i:Value)(hi:i=.int .i64 ((k+1:Nat):Int)):Ig e wh w v' i w3:=by
 subst hy;obtain⟨h1,h2⟩:=jG (hT.alloc o) (n:=4) (by simp[cf]) hown hgrow hg;exact⟨k+1,Nb,hi,by rw[hs];exact h1,by rw[hs];exact h2⟩
theorem wq{e wh:Nat}(h:(frame 77 (bD e wh)).length=17):(splice ((an 128).map am) 0 ((frame 77 (bD e wh)).map am)).toArray=aw (bO e wh):=by
 unfold splice bO aw;rw[take_zero,nil_append,NP,h,<- map_drop,<- NW,Nat.zero_add];congr 2
def CA(e wh:Nat)(w:World)(ev:Ending)(w':World):Prop:=ev=.returned (.agg (aw (bO e wh)))/\aV w w'
theorem mh(e wh:Nat)(he:e<4294967296)(hw:wh<4294967296)(w:World):Calls prog 98 #[.agg #[.int .u32 e,.int .u32 wh]] w (CA e wh w):=by
 have hz:=mx;have x0:∀W,(Instr.index 283 (.agg #[.int .u32 e,.int .u32 wh]) (.int .i64 0)).run prog W=.ok (.int .u32 e) W:=fun W=>by kernel_rfl
 have x1:∀W,(Instr.index 283 (.agg #[.int .u32 e,.int .u32 wh]) (.int .i64 1)).run prog W=.ok (.int .u32 wh) W:=fun W=>by kernel_rfl
 have hst:Turns [] (aJ (.slice none 0 0) ((bD e wh).take 0)++[(w.heap.size+2,Is (.cells eJ 43 (0,0))),(w.heap.size+1,Is (.cells eJ 43 (0,0)))]) w (((w.alloc (.cells #[.int .u32 e,.int .u32 wh] 118)).alloc (.cells eJ 43)).alloc (.cells eJ 43)):=by
  have h:=((((Turns.refl (Sat.nil w)).alloc (.cells #[.int .u32 e,.int .u32 wh] 118)).Q9 (.cells eJ 43)).Q9 (.cells eJ 43));simp only[World.size_alloc]at h;exact h
 have HST:=NZ hst;clear hst;go_enter func98,ntmps98;go_wp2_with fail;go_loopw [4,12] (fun v i wr=>Ig e wh w v i wr) (fun _ i _=>2-(intOf i).toNat)
 case atStart=>exact⟨0,Nb,rfl,by simpa using go,HST.o⟩
 case round =>
  obtain⟨k,hk,rfl,hok,hT⟩:=hrel;by_cases hlt:k<2
  ·obtain⟨i0,hi0,hz1,hz2,hz3⟩:=info_parts iD;have hown:=dh hT.sat.left hok;have hcase:k=0\/k=1:=Nb
   have H:=Ry hok hT hown hi0 hz1 hz2 hz3;have hll:((bD e wh).take (4*k)).length<=8:=Nj
   clear hok hT hown hi0 hz1 hz2 hz3 HST hz;rcases hcase with rfl|rfl
   all_goals
    go_wp2_with (refine gA _ rfl (.tmp 15) (.tmp 27) 38 rfl 5 i0 (.int .u8 0) 1 1 underlying38 H.d H.e H.f H.u rfl Nk _ _ _ rfl (H.c.alloc _) ⟨wr.heap.size,0,none⟩ 4 4 [_,_,_,_] rfl rfl (ik _ _ _) (by simp[Value.oneCell']) (by unfold maxLen;omega) Nb ?_;intro v' w3 hown' hgrow _ hgb)
   ·refine⟨su (k:=0) he hlt (by simp[bD,cf]) H.b (tU e he).symm hown' hgrow hgb _ rfl,by simp[intOf]⟩
   ·refine⟨su (k:=1) hw hlt (by rw[take_of_length_le (by rw[ce];omega)];unfold bD;rw[take_left' (by rw[cf])]) H.b (tU wh hw).symm hown' hgrow hgb _ rfl,by simp[intOf]⟩
  ·obtain rfl:k=2:=Nb
   rw[show(bD e wh).take (4*2)=bD e wh from take_of_length_le (by rw[ce];omega)]at hok hT;have hown:=dh hT.sat.left hok;obtain⟨av,cv,rfl,_,hcv,hca,_⟩:=ru hown;rw[ce]at *
   have H:=Oz hok hT hca;clear hok hT hown hca HST x0 x1 hz;go_wp2_with fail
   have HFr:Hid (∀W,ak W av ((bD e wh).map am)->Calls prog 78 #[.int .u8 77,.slice av 8 cv] W (eK (frame 77 (bD e wh)) W)):=NZ (fun W hW=>by
    have:=ic 77 av cv (bD e wh) W hW (by rw[ce];omega);rw[ce]at this;exact this)
   have WO:=NZ (show(prog.info? 5).map (·.size)=some 1 by kernel_rfl);refine wp_region_any HM.o ?_;change wpAny _ _ _ _ _ _ _ (World.drew _);refine wpAny_take (i:=0) (v:=?_) rfl Nc Nc Nc (fun _ _ _ h=>h) (Or.inl ⟨by rfl,?_⟩) ?_;rotate_left
   ·intro w;go_simp;try (with_reducible rfl)
   refine wpAny_take (i:=1) (v:=?_) rfl Nc Nc Nc (fun _ _ _ h=>h) (Or.inl ⟨by rfl,?_⟩) ?_;rotate_left
   ·intro w;go_simp;try (with_reducible rfl)
   refine wpAny_ready (rs:=[2]) Nc Nh ?_;refine AllReady.cons rfl (fun K hK=>?_) ?_
   ·go_simp;refine(HFr.o _ (by exact H.y)).mono ?_;rintro ev w2 ⟨v2,rfl,hok2,hT2⟩;obtain⟨a2,c2,rfl,hl2,hc2,UD,_⟩:=ru (dh hT2.sat hok2);have hfl:(frame 77 (bD e wh)).length=17:=by rw[bi,ce]
    have hb3:w2.heap[w.heap.size+1+1]?=some (.cells ((an 128).map am).toArray 43 (0,0)):=hT2.news.at (H.b.drew.sat.right.Q5) id;have hb2:w2.heap[w.heap.size+1]?=some (.cells (aw (an 128)) 43 (0,0)):=hT2.news.at (H.b.drew.sat.right.tail.Q5) id;have hsw:aV w w2:=(H.b.news.drew).trans hT2.news;rw[hfl];have HX:=PD hb3 hb2 hsw UD hfl;clear hb3 hb2 hsw UD hfl hok2 hT2 hl2;refine hK _ _ ?_;clear hK K;refine wpAny_ready (rs:=[3]) Nc Nh ?_;refine AllReady.cons rfl (fun K hK=>?_) ?_
    ·simp only[getElem_toArray,getElem_cons_succ,getElem_cons_zero];rw[NR Nq];refine Ek (.tmp 30) (.tmp 32) 38 38 rfl 5 underlying38 WO.o _ _ _ _ _ _ rfl rfl (w.heap.size+1+1) 0 ((an 128).map am) 43 HX.a ((frame 77 (bD e wh)).map am) (by rw[NP,HX.w];rfl) (fun hp=>⟨rfl,by obtain⟨g,off,hg,hcc⟩:=HX.d (by simpa using hp);exact⟨⟨g,off,none⟩,hg,fun j v hv=>by obtain⟨hj,rfl⟩:=List.getElem?_eq_some_iff.1 hv;rw[Addr.add_mid];exact hcc j hj⟩⟩) (by rw[NP,NP,HX.w,ap];omega) (dF _) ?_;intro w3 hh hm;have hc3:w3.heap[w.heap.size+1+1]?=some (.cells (aw (bO e wh)) 43 (0,0)):=by rw[hh,wq HX.w]
     have hb2:w3.heap[w.heap.size+1]?=some (.cells (aw (an 128)) 43 (0,0)):=hm.at HX.b Nb;have hsw:aV w w3:=HX.c.trans' hm (fun i hi=>.inr Nb);have HY:=Oz hc3 hb2 hsw;clear hc3 hb2 hsw hh hm;simp only[Act.put,QA,QB,QC];refine hK _ _ ?_;clear hK K;refine wpAny_done Nc ?_ _;go_wp2_with (first|(refine wpList_load_mid rfl 43 (.tmp 3) rfl (w.heap.size+1+1) 0 rfl ((bO e wh).map am) _ (by have:=dX HY.a 0 128;rwa [drop_zero,take_of_length_le (by rw[co];omega)]at this) underlying43 rfl (gT (co e wh)) ?_)|(refine wpList_store_mid rfl 43 (.tmp 2) (.tmp 34) rfl (w.heap.size+1) 0 ((bO e wh).map am).toArray rfl rfl ?c5 (gU (co e wh)) (cS _) ?_))
     case c5=>rw[show((bO e wh).map am).toArray.size=128 by simp[co]];exact eT HY.b 0 128 ND
     obtain⟨q1,q2⟩:=dr HY.b (s:=bO e wh) (by rw[co,ap]);refine bodyPost_ret (results_cell_row rfl _ _ (w.heap.size+1) 43 (aw (bO e wh)) (0,0) _ rfl q1 underlying43 rfl (gU (co e wh))) rfl ⟨rfl,?_⟩;exact HY.y.trans' q2 (fun i hi=>.inr Nb)
    exact AllReady.nil
   exact AllReady.nil
end
end Go.Proofs.YtdhobpbngkainaaGreatDoor
