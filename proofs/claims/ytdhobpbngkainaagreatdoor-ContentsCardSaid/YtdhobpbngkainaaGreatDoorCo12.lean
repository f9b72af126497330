/- Ours. A part of the proof, made small by a program. -/
import Derived.Test.YtdhobpbngkainaaGreatDoorCo09
import Derived.Test.YtdhobpbngkainaaGreatDoorCo11
import Derived.Test.YtdhobpbngkainaaGreatDoorCo05
set_option maxRecDepth 100000
set_option maxHeartbeats 4000000
namespace Go.Proofs.YtdhobpbngkainaaGreatDoor
open Go.RowKit Go.Maps
def tupAt (k:Nat):Value→Value
 | .tuple a=>a.getD k undef
 | _=>undef
theorem q6z (ob ub:Nat) (pa pr:Nat) (s t:Bs) (na nb nc:Int) {Q:Exit→Act→World→Prop} {w:World} {u1 u2 u4 u5 u6 u7 u8 u9 u10 u11 u12 u13 u14 u15 u16 u17 u18 u19 u20 u21 u22 u23 u24 u25 u26 u27 u28 u29 u30 u31 u32 u33 u34 u35 u36 u37 u38 u39 u40 u41 u42 u43 u44 u45 u46 u47 u48 u49 u50 u51 u52 u53 u54 u55 u56 u57 u58 u59 u60 u61 u62 u63 u64 u65 u66 u67 u68 u69 u70 u71 u72 u73 u74 u75 u76 u77 u78 u79 u80 u81 u82 u83 u84 u85 u86 u87 u88 u89 u90 u91 u92 u93 u94 u95 u96 u97 u98 u99 u100 u101 u102 u103 u104 u105 u106 u107 u108 u109 u110 u111 u112 u113 u114 u115 u116 u117 u118 u119 u120 u121 u122 u123 u124 u125 u126 u127 u128 u129 u130 u131 u132 u133 u134 u135 u136 u137 u138 u139 u140 u141 u142 u143 u144 u145 u146 u147 u148 u149 u150 u151 u152 u153 u154 u155 u156 u157 u158 u159 u160 u161 u162 u163 u164 u165 u166 u167 u168 u169 u170 u171 u172 u173 u174 u175 u176 u177 u178 u179 u180 u181 u182 u183 u184 u185 u186 u187 u188 u189 u190 u191 u192 u193 u194 u195 u196 u197 u198 u199 u200 u201 u202 u203 u204 u205 u206 u207 u208 u209 u210 u211 u212 u213 u214 u215 u216 u217 u218 u219 u220 u221 u222 u223 u224 u225 u226 u227 u228 u229 u230 u231 u232 u233 u234 u235 u236 u237 u238 u239 u240 u241 u242 u243 u244 u245 u246 u247 u248 u249 u250 u251 u252 u253 u254 u255 u256 u257 u258 u259 u260 u261 u262 u263 u264:Value} {ds:List Deferred} {Post:Value→World→Prop}
  (hC0:(fun W=>W.cell? ⟨ub,1,none⟩=some (.pointer (some ⟨pa,0,none⟩))∧W.cell? ⟨ob,4,none⟩=some (str s)∧W.cell? ⟨ob,1,none⟩=some (.int .i64 na)) w) (hC1:∀ r W,Post r W→(fun W=>W.cell? ⟨ub,1,none⟩=some (.pointer (some ⟨pa,0,none⟩))∧W.cell? ⟨ob,4,none⟩=some (str s)∧W.cell? ⟨ob,1,none⟩=some (.int .i64 na)) W) (hpt:∀ r W,Post r W→∃ ra rb,r=.tuple #[ra,rb])
  (hcall:Calls Tryz.prog 27 #[.pointer (some ⟨pa,0,none⟩),str s,.int .i64 na] w.drew (fun e w'=>∃ r,e=.returned r∧Post r w'))
  (hk:∀ (ra rb:Value) (w':World),Post (.tuple #[ra,rb]) w'→Q .normal { tmps:=#[.pointer (some ⟨ub,0,none⟩),u1,u2,.pointer (some ⟨ob,0,none⟩),u4,ra,u6,rb,u8,u9,u10,u11,u12,u13,u14,u15,u16,u17,u18,u19,u20,u21,u22,u23,u24,u25,u26,u27,u28,u29,u30,u31,u32,u33,u34,u35,(.tuple #[ra,rb]),.pointer (some ⟨ub,0,none⟩),.pointer (some ⟨ub,0,none⟩),.pointer (some ⟨ub,1,none⟩),.pointer (some ⟨pa,0,none⟩),.pointer (some ⟨ob,4,none⟩),str s,.pointer (some ⟨ob,1,none⟩),.int .i64 na,(.tuple #[ra,rb]),ra,rb,u48,u49,u50,u51,u52,u53,u54,u55,u56,u57,u58,u59,u60,u61,u62,u63,u64,u65,u66,u67,u68,u69,u70,u71,u72,u73,u74,u75,u76,u77,u78,u79,u80,u81,u82,u83,u84,u85,u86,u87,u88,u89,u90,u91,u92,u93,u94,u95,u96,u97,u98,u99,u100,u101,u102,u103,u104,u105,u106,u107,u108,u109,u110,u111,u112,u113,u114,u115,u116,u117,u118,u119,u120,u121,u122,u123,u124,u125,u126,u127,u128,u129,u130,u131,u132,u133,u134,u135,u136,u137,u138,u139,u140,u141,u142,u143,u144,u145,u146,u147,u148,u149,u150,u151,u152,u153,u154,u155,u156,u157,u158,u159,u160,u161,u162,u163,u164,u165,u166,u167,u168,u169,u170,u171,u172,u173,u174,u175,u176,u177,u178,u179,u180,u181,u182,u183,u184,u185,u186,u187,u188,u189,u190,u191,u192,u193,u194,u195,u196,u197,u198,u199,u200,u201,u202,u203,u204,u205,u206,u207,u208,u209,u210,u211,u212,u213,u214,u215,u216,u217,u218,u219,u220,u221,u222,u223,u224,u225,u226,u227,u228,u229,u230,u231,u232,u233,u234,u235,u236,u237,u238,u239,u240,u241,u242,u243,u244,u245,u246,u247,u248,u249,u250,u251,u252,u253,u254,u255,u256,u257,u258,u259,u260,u261,u262,u263,u264],defers:=ds } w') :
  (regOf 9 Tryz.f57).wp Tryz.prog Q { tmps:=#[.pointer (some ⟨ub,0,none⟩),u1,u2,.pointer (some ⟨ob,0,none⟩),u4,u5,u6,u7,u8,u9,u10,u11,u12,u13,u14,u15,u16,u17,u18,u19,u20,u21,u22,u23,u24,u25,u26,u27,u28,u29,u30,u31,u32,u33,u34,u35,u36,u37,u38,u39,u40,u41,u42,u43,u44,u45,u46,u47,u48,u49,u50,u51,u52,u53,u54,u55,u56,u57,u58,u59,u60,u61,u62,u63,u64,u65,u66,u67,u68,u69,u70,u71,u72,u73,u74,u75,u76,u77,u78,u79,u80,u81,u82,u83,u84,u85,u86,u87,u88,u89,u90,u91,u92,u93,u94,u95,u96,u97,u98,u99,u100,u101,u102,u103,u104,u105,u106,u107,u108,u109,u110,u111,u112,u113,u114,u115,u116,u117,u118,u119,u120,u121,u122,u123,u124,u125,u126,u127,u128,u129,u130,u131,u132,u133,u134,u135,u136,u137,u138,u139,u140,u141,u142,u143,u144,u145,u146,u147,u148,u149,u150,u151,u152,u153,u154,u155,u156,u157,u158,u159,u160,u161,u162,u163,u164,u165,u166,u167,u168,u169,u170,u171,u172,u173,u174,u175,u176,u177,u178,u179,u180,u181,u182,u183,u184,u185,u186,u187,u188,u189,u190,u191,u192,u193,u194,u195,u196,u197,u198,u199,u200,u201,u202,u203,u204,u205,u206,u207,u208,u209,u210,u211,u212,u213,u214,u215,u216,u217,u218,u219,u220,u221,u222,u223,u224,u225,u226,u227,u228,u229,u230,u231,u232,u233,u234,u235,u236,u237,u238,u239,u240,u241,u242,u243,u244,u245,u246,u247,u248,u249,u250,u251,u252,u253,u254,u255,u256,u257,u258,u259,u260,u261,u262,u263,u264],defers:=ds } w:=by
 have HM:=Lib.hid (show Tryz.prog.follows .mixedOrders=true by kernel_rfl)
 conv=>arg 2;whnf
 refine qb1 (A:=?A) (hA:=?hA) HM.out 8 (fun i=>([(.pointer (some ⟨ub,0,none⟩):Value),(.pointer (some ⟨ub,0,none⟩):Value),(.pointer (some ⟨ub,1,none⟩):Value),(.pointer (some ⟨pa,0,none⟩):Value),(.pointer (some ⟨ob,4,none⟩):Value),(str s:Value),(.pointer (some ⟨ob,1,none⟩):Value),(.int .i64 na:Value)]:List Value).getD i undef) (fun i r=>(([(fun r=>r:Value→Value),(fun r=>r:Value→Value),(fun r=>(tupAt 0 r):Value→Value),(fun r=>(tupAt 1 r):Value→Value),(fun r=>(tupAt 0 r):Value→Value),(fun r=>(tupAt 1 r):Value→Value)]:List (Value→Value)).getD (i-8) (fun r=>r)) r) (fun W=>W.cell? ⟨ub,1,none⟩=some (.pointer (some ⟨pa,0,none⟩))∧W.cell? ⟨ob,4,none⟩=some (str s)∧W.cell? ⟨ob,1,none⟩=some (.int .i64 na)) Post (by kernel_rfl) (by kernel_rfl) (by decide) hC0 hC1 ?hs ?he
 case hA=>intro x;simp only [qam,Act.put,List.setIfInBounds_toArray,List.set_cons_zero,List.set_cons_succ,Nat.reduceAdd];rfl
 case hs =>
  refine ⟨fun x w hd hC K hK=>?_,fun x w hd hC K hK=>?_,fun x w hd hC K hK=>?_,fun x w hd hC K hK=>?_,fun x w hd hC K hK=>?_,fun x w hd hC K hK=>?_,fun x w hd hC K hK=>?_,fun x w hd hC K hK=>?_,fun x hd K hK=>?_,fun x r w hp hd K hK=>?_,fun x r w hp hd K hK=>?_,fun x r w hp hd K hK=>?_,fun x r w hp hd K hK=>?_,fun x r w hp hd K hK=>?_,trivial⟩
  ·dsimp only
   exact qag (by kernel_rfl) hK
  ·dsimp only
   have h0:x 0=.pointer (some ⟨ub,0,none⟩):=qai hd 0 (by kernel_rfl)
   exact qag (by rw [h0];kernel_rfl) hK
  ·dsimp only
   have h1:x 1=.pointer (some ⟨ub,0,none⟩):=qai hd 1 (by kernel_rfl)
   exact qag (by rw [h1];kernel_rfl) hK
  ·dsimp only
   have h2:x 2=.pointer (some ⟨ub,1,none⟩):=qai hd 2 (by kernel_rfl)
   exact qat Tryz.underlying32 rfl rfl (by rw [h2];rfl) (hC.1) hK
  ·dsimp only
   exact qag (by kernel_rfl) hK
  ·dsimp only
   have h4:x 4=.pointer (some ⟨ob,4,none⟩):=qai hd 4 (by kernel_rfl)
   exact qat Tryz.underlying9 rfl rfl (by rw [h4];rfl) (hC.2.1) hK
  ·dsimp only
   exact qag (by kernel_rfl) hK
  ·dsimp only
   have h6:x 6=.pointer (some ⟨ob,1,none⟩):=qai hd 6 (by kernel_rfl)
   exact qat Tryz.underlying3 rfl rfl (by rw [h6];rfl) (hC.2.2) hK
  ·dsimp only
   have h3:x 3=.pointer (some ⟨pa,0,none⟩):=qai hd 3 (by kernel_rfl)
   have h5:x 5=str s:=qai hd 5 (by kernel_rfl)
   have h7:x 7=.int .i64 na:=qai hd 7 (by kernel_rfl)
   refine qbe (by rw [h3,h5,h7];kernel_rfl) hcall ?_
   rintro e w' ⟨r,rfl,hp⟩
   exact ⟨r,rfl,hK r w' hp⟩
  ·dsimp only
   have h8:x 8=_:=qai hd 8 (by kernel_rfl)
   obtain ⟨ra,rb,rfl⟩:=hpt r w hp
   change x 8=(.tuple #[ra,rb]) at h8
   exact qag (by rw [h8];kernel_rfl) hK
  ·dsimp only
   have h9:x 9=_:=qai hd 9 (by kernel_rfl)
   obtain ⟨ra,rb,rfl⟩:=hpt r w hp
   change x 9=(.tuple #[ra,rb]) at h9
   exact qag (by rw [h9];kernel_rfl) hK
  ·dsimp only
   have h9:x 9=_:=qai hd 9 (by kernel_rfl)
   obtain ⟨ra,rb,rfl⟩:=hpt r w hp
   change x 9=(.tuple #[ra,rb]) at h9
   exact qag (by rw [h9];kernel_rfl) hK
  ·dsimp only
   have h10:x 10=_:=qai hd 10 (by kernel_rfl)
   obtain ⟨ra,rb,rfl⟩:=hpt r w hp
   change x 10=ra at h10
   exact qag (by rw [h10];kernel_rfl) hK
  ·dsimp only
   have h11:x 11=_:=qai hd 11 (by kernel_rfl)
   obtain ⟨ra,rb,rfl⟩:=hpt r w hp
   change x 11=rb at h11
   exact qag (by rw [h11];kernel_rfl) hK
 case he =>
  intro r w3 hp
  obtain ⟨ra,rb,rfl⟩:=hpt r w3 hp
  exact hk ra rb w3 hp
theorem qxq (ob ub:Nat) (pa pr:Nat) (s t:Bs) (na nb nc:Int) {Q:Exit→Act→World→Prop} {w:World} {u1 u2 u4 u5 u6 u7 u8 u9 u10 u11 u12 u13 u14 u15 u16 u17 u18 u19 u20 u21 u22 u23 u24 u25 u26 u27 u28 u29 u30 u31 u32 u33 u34 u35 u36 u37 u38 u39 u40 u41 u42 u43 u44 u45 u46 u47 u48 u49 u50 u51 u52 u53 u54 u55 u56 u57 u58 u59 u60 u61 u62 u63 u64 u65 u66 u67 u68 u69 u70 u71 u72 u73 u74 u75 u76 u77 u78 u79 u80 u81 u82 u83 u84 u85 u86 u87 u88 u89 u90 u91 u92 u93 u94 u95 u96 u97 u98 u99 u100 u101 u102 u103 u104 u105 u106 u107 u108 u109 u110 u111 u112 u113 u114 u115 u116 u117 u118 u119 u120 u121 u122 u123 u124 u125 u126 u127 u128 u129 u130 u131 u132 u133 u134 u135 u136 u137 u138 u139 u140 u141 u142 u143 u144 u145 u146 u147 u148 u149 u150 u151 u152 u153 u154 u155 u156 u157 u158 u159 u160 u161 u162 u163 u164 u165 u166 u167 u168 u169 u170 u171 u172 u173 u174 u175 u176 u177 u178 u179 u180 u181 u182 u183 u184 u185 u186 u187 u188 u189 u190 u191 u192 u193 u194 u195 u196 u197 u198 u199 u200 u201 u202 u203 u204 u205 u206 u207 u208 u209 u210 u211 u212 u213 u214 u215 u216 u217 u218 u219 u220 u221 u222 u223 u224 u225 u226 u227 u228 u229 u230 u231 u232 u233 u234 u235 u236 u237 u238 u239 u240 u241 u242 u243 u244 u245 u246 u247 u248 u249 u250 u251 u252 u253 u254 u255 u256 u257 u258 u259 u260 u261 u262 u263 u264:Value} {ds:List Deferred} {Post:Value→World→Prop}
  (hC0:(fun W=>W.cell? ⟨ub,2,none⟩=some (.pointer (some ⟨pr,0,none⟩))∧W.cell? ⟨ob,4,none⟩=some (str s)∧W.cell? ⟨ob,1,none⟩=some (.int .i64 na)) w) (hC1:∀ r W,Post r W→(fun W=>W.cell? ⟨ub,2,none⟩=some (.pointer (some ⟨pr,0,none⟩))∧W.cell? ⟨ob,4,none⟩=some (str s)∧W.cell? ⟨ob,1,none⟩=some (.int .i64 na)) W) (hpt:∀ r W,Post r W→∃ ra rb,r=.tuple #[ra,rb])
  (hcall:Calls Tryz.prog 102 #[.pointer (some ⟨pr,0,none⟩),str s,.int .i64 na] w.drew (fun e w'=>∃ r,e=.returned r∧Post r w'))
  (hk:∀ (ra rb:Value) (w':World),Post (.tuple #[ra,rb]) w'→Q .normal { tmps:=#[.pointer (some ⟨ub,0,none⟩),u1,u2,.pointer (some ⟨ob,0,none⟩),u4,u5,ra,u7,rb,u9,u10,u11,u12,u13,u14,u15,u16,u17,u18,u19,u20,u21,u22,u23,u24,u25,u26,u27,u28,u29,u30,u31,u32,u33,u34,u35,u36,u37,u38,u39,u40,u41,u42,u43,u44,u45,u46,u47,(.tuple #[ra,rb]),.pointer (some ⟨ub,0,none⟩),.pointer (some ⟨ub,0,none⟩),.pointer (some ⟨ub,2,none⟩),.pointer (some ⟨pr,0,none⟩),.pointer (some ⟨ob,4,none⟩),str s,.pointer (some ⟨ob,1,none⟩),.int .i64 na,(.tuple #[ra,rb]),ra,rb,u60,u61,u62,u63,u64,u65,u66,u67,u68,u69,u70,u71,u72,u73,u74,u75,u76,u77,u78,u79,u80,u81,u82,u83,u84,u85,u86,u87,u88,u89,u90,u91,u92,u93,u94,u95,u96,u97,u98,u99,u100,u101,u102,u103,u104,u105,u106,u107,u108,u109,u110,u111,u112,u113,u114,u115,u116,u117,u118,u119,u120,u121,u122,u123,u124,u125,u126,u127,u128,u129,u130,u131,u132,u133,u134,u135,u136,u137,u138,u139,u140,u141,u142,u143,u144,u145,u146,u147,u148,u149,u150,u151,u152,u153,u154,u155,u156,u157,u158,u159,u160,u161,u162,u163,u164,u165,u166,u167,u168,u169,u170,u171,u172,u173,u174,u175,u176,u177,u178,u179,u180,u181,u182,u183,u184,u185,u186,u187,u188,u189,u190,u191,u192,u193,u194,u195,u196,u197,u198,u199,u200,u201,u202,u203,u204,u205,u206,u207,u208,u209,u210,u211,u212,u213,u214,u215,u216,u217,u218,u219,u220,u221,u222,u223,u224,u225,u226,u227,u228,u229,u230,u231,u232,u233,u234,u235,u236,u237,u238,u239,u240,u241,u242,u243,u244,u245,u246,u247,u248,u249,u250,u251,u252,u253,u254,u255,u256,u257,u258,u259,u260,u261,u262,u263,u264],defers:=ds } w') :
  (regOf 10 Tryz.f57).wp Tryz.prog Q { tmps:=#[.pointer (some ⟨ub,0,none⟩),u1,u2,.pointer (some ⟨ob,0,none⟩),u4,u5,u6,u7,u8,u9,u10,u11,u12,u13,u14,u15,u16,u17,u18,u19,u20,u21,u22,u23,u24,u25,u26,u27,u28,u29,u30,u31,u32,u33,u34,u35,u36,u37,u38,u39,u40,u41,u42,u43,u44,u45,u46,u47,u48,u49,u50,u51,u52,u53,u54,u55,u56,u57,u58,u59,u60,u61,u62,u63,u64,u65,u66,u67,u68,u69,u70,u71,u72,u73,u74,u75,u76,u77,u78,u79,u80,u81,u82,u83,u84,u85,u86,u87,u88,u89,u90,u91,u92,u93,u94,u95,u96,u97,u98,u99,u100,u101,u102,u103,u104,u105,u106,u107,u108,u109,u110,u111,u112,u113,u114,u115,u116,u117,u118,u119,u120,u121,u122,u123,u124,u125,u126,u127,u128,u129,u130,u131,u132,u133,u134,u135,u136,u137,u138,u139,u140,u141,u142,u143,u144,u145,u146,u147,u148,u149,u150,u151,u152,u153,u154,u155,u156,u157,u158,u159,u160,u161,u162,u163,u164,u165,u166,u167,u168,u169,u170,u171,u172,u173,u174,u175,u176,u177,u178,u179,u180,u181,u182,u183,u184,u185,u186,u187,u188,u189,u190,u191,u192,u193,u194,u195,u196,u197,u198,u199,u200,u201,u202,u203,u204,u205,u206,u207,u208,u209,u210,u211,u212,u213,u214,u215,u216,u217,u218,u219,u220,u221,u222,u223,u224,u225,u226,u227,u228,u229,u230,u231,u232,u233,u234,u235,u236,u237,u238,u239,u240,u241,u242,u243,u244,u245,u246,u247,u248,u249,u250,u251,u252,u253,u254,u255,u256,u257,u258,u259,u260,u261,u262,u263,u264],defers:=ds } w:=by
 have HM:=Lib.hid (show Tryz.prog.follows .mixedOrders=true by kernel_rfl)
 conv=>arg 2;whnf
 refine qb1 (A:=?A) (hA:=?hA) HM.out 8 (fun i=>([(.pointer (some ⟨ub,0,none⟩):Value),(.pointer (some ⟨ub,0,none⟩):Value),(.pointer (some ⟨ub,2,none⟩):Value),(.pointer (some ⟨pr,0,none⟩):Value),(.pointer (some ⟨ob,4,none⟩):Value),(str s:Value),(.pointer (some ⟨ob,1,none⟩):Value),(.int .i64 na:Value)]:List Value).getD i undef) (fun i r=>(([(fun r=>r:Value→Value),(fun r=>r:Value→Value),(fun r=>(tupAt 0 r):Value→Value),(fun r=>(tupAt 1 r):Value→Value),(fun r=>(tupAt 0 r):Value→Value),(fun r=>(tupAt 1 r):Value→Value)]:List (Value→Value)).getD (i-8) (fun r=>r)) r) (fun W=>W.cell? ⟨ub,2,none⟩=some (.pointer (some ⟨pr,0,none⟩))∧W.cell? ⟨ob,4,none⟩=some (str s)∧W.cell? ⟨ob,1,none⟩=some (.int .i64 na)) Post (by kernel_rfl) (by kernel_rfl) (by decide) hC0 hC1 ?hs ?he
 case hA=>intro x;simp only [qam,Act.put,List.setIfInBounds_toArray,List.set_cons_zero,List.set_cons_succ,Nat.reduceAdd];rfl
 case hs =>
  refine ⟨fun x w hd hC K hK=>?_,fun x w hd hC K hK=>?_,fun x w hd hC K hK=>?_,fun x w hd hC K hK=>?_,fun x w hd hC K hK=>?_,fun x w hd hC K hK=>?_,fun x w hd hC K hK=>?_,fun x w hd hC K hK=>?_,fun x hd K hK=>?_,fun x r w hp hd K hK=>?_,fun x r w hp hd K hK=>?_,fun x r w hp hd K hK=>?_,fun x r w hp hd K hK=>?_,fun x r w hp hd K hK=>?_,trivial⟩
  ·dsimp only
   exact qag (by kernel_rfl) hK
  ·dsimp only
   have h0:x 0=.pointer (some ⟨ub,0,none⟩):=qai hd 0 (by kernel_rfl)
   exact qag (by rw [h0];kernel_rfl) hK
  ·dsimp only
   have h1:x 1=.pointer (some ⟨ub,0,none⟩):=qai hd 1 (by kernel_rfl)
   exact qag (by rw [h1];kernel_rfl) hK
  ·dsimp only
   have h2:x 2=.pointer (some ⟨ub,2,none⟩):=qai hd 2 (by kernel_rfl)
   exact qat Tryz.underlying56 rfl rfl (by rw [h2];rfl) (hC.1) hK
  ·dsimp only
   exact qag (by kernel_rfl) hK
  ·dsimp only
   have h4:x 4=.pointer (some ⟨ob,4,none⟩):=qai hd 4 (by kernel_rfl)
   exact qat Tryz.underlying9 rfl rfl (by rw [h4];rfl) (hC.2.1) hK
  ·dsimp only
   exact qag (by kernel_rfl) hK
  ·dsimp only
   have h6:x 6=.pointer (some ⟨ob,1,none⟩):=qai hd 6 (by kernel_rfl)
   exact qat Tryz.underlying3 rfl rfl (by rw [h6];rfl) (hC.2.2) hK
  ·dsimp only
   have h3:x 3=.pointer (some ⟨pr,0,none⟩):=qai hd 3 (by kernel_rfl)
   have h5:x 5=str s:=qai hd 5 (by kernel_rfl)
   have h7:x 7=.int .i64 na:=qai hd 7 (by kernel_rfl)
   refine qbe (by rw [h3,h5,h7];kernel_rfl) hcall ?_
   rintro e w' ⟨r,rfl,hp⟩
   exact ⟨r,rfl,hK r w' hp⟩
  ·dsimp only
   have h8:x 8=_:=qai hd 8 (by kernel_rfl)
   obtain ⟨ra,rb,rfl⟩:=hpt r w hp
   change x 8=(.tuple #[ra,rb]) at h8
   exact qag (by rw [h8];kernel_rfl) hK
  ·dsimp only
   have h9:x 9=_:=qai hd 9 (by kernel_rfl)
   obtain ⟨ra,rb,rfl⟩:=hpt r w hp
   change x 9=(.tuple #[ra,rb]) at h9
   exact qag (by rw [h9];kernel_rfl) hK
  ·dsimp only
   have h9:x 9=_:=qai hd 9 (by kernel_rfl)
   obtain ⟨ra,rb,rfl⟩:=hpt r w hp
   change x 9=(.tuple #[ra,rb]) at h9
   exact qag (by rw [h9];kernel_rfl) hK
  ·dsimp only
   have h10:x 10=_:=qai hd 10 (by kernel_rfl)
   obtain ⟨ra,rb,rfl⟩:=hpt r w hp
   change x 10=ra at h10
   exact qag (by rw [h10];kernel_rfl) hK
  ·dsimp only
   have h11:x 11=_:=qai hd 11 (by kernel_rfl)
   obtain ⟨ra,rb,rfl⟩:=hpt r w hp
   change x 11=rb at h11
   exact qag (by rw [h11];kernel_rfl) hK
 case he =>
  intro r w3 hp
  obtain ⟨ra,rb,rfl⟩:=hpt r w3 hp
  exact hk ra rb w3 hp
theorem q6n (ob ub:Nat) (pa pr:Nat) (s t:Bs) (na nb nc:Int) {Q:Exit→Act→World→Prop} {w:World} {u1 u2 u4 u5 u6 u7 u8 u9 u10 u11 u12 u13 u14 u15 u16 u17 u18 u19 u20 u21 u22 u23 u24 u25 u26 u27 u28 u29 u30 u31 u32 u33 u34 u35 u36 u37 u38 u39 u40 u41 u42 u43 u44 u45 u46 u47 u48 u49 u50 u51 u52 u53 u54 u55 u56 u57 u58 u59 u60 u61 u62 u63 u64 u65 u66 u67 u68 u69 u70 u71 u72 u73 u74 u75 u76 u77 u78 u79 u80 u81 u82 u83 u84 u85 u86 u87 u88 u89 u90 u91 u92 u93 u94 u95 u96 u97 u98 u99 u100 u101 u102 u103 u104 u105 u106 u107 u108 u109 u110 u111 u112 u113 u114 u115 u116 u117 u118 u119 u120 u121 u122 u123 u124 u125 u126 u127 u128 u129 u130 u131 u132 u133 u134 u135 u136 u137 u138 u139 u140 u141 u142 u143 u144 u145 u146 u147 u148 u149 u150 u151 u152 u153 u154 u155 u156 u157 u158 u159 u160 u161 u162 u163 u164 u165 u166 u167 u168 u169 u170 u171 u172 u173 u174 u175 u176 u177 u178 u179 u180 u181 u182 u183 u184 u185 u186 u187 u188 u189 u190 u191 u192 u193 u194 u195 u196 u197 u198 u199 u200 u201 u202 u203 u204 u205 u206 u207 u208 u209 u210 u211 u212 u213 u214 u215 u216 u217 u218 u219 u220 u221 u222 u223 u224 u225 u226 u227 u228 u229 u230 u231 u232 u233 u234 u235 u236 u237 u238 u239 u240 u241 u242 u243 u244 u245 u246 u247 u248 u249 u250 u251 u252 u253 u254 u255 u256 u257 u258 u259 u260 u261 u262 u263 u264:Value} {ds:List Deferred} {Post:Value→World→Prop}
  (hC0:(fun W=>W.cell? ⟨ub,1,none⟩=some (.pointer (some ⟨pa,0,none⟩))∧W.cell? ⟨ob,4,none⟩=some (str s)∧W.cell? ⟨ob,1,none⟩=some (.int .i64 na)∧W.cell? ⟨ob,2,none⟩=some (.int .i64 nb)∧W.cell? ⟨ob,3,none⟩=some (.int .i64 nc)) w) (hC1:∀ r W,Post r W→(fun W=>W.cell? ⟨ub,1,none⟩=some (.pointer (some ⟨pa,0,none⟩))∧W.cell? ⟨ob,4,none⟩=some (str s)∧W.cell? ⟨ob,1,none⟩=some (.int .i64 na)∧W.cell? ⟨ob,2,none⟩=some (.int .i64 nb)∧W.cell? ⟨ob,3,none⟩=some (.int .i64 nc)) W) (hpt:∀ r W,Post r W→∃ ra rb,r=.tuple #[ra,rb])
  (hcall:Calls Tryz.prog 103 #[.pointer (some ⟨pa,0,none⟩),str s,.int .i64 na,.int .i64 nb,.int .i64 nc] w.drew (fun e w'=>∃ r,e=.returned r∧Post r w'))
  (hk:∀ (ra rb:Value) (w':World),Post (.tuple #[ra,rb]) w'→Q .normal { tmps:=#[.pointer (some ⟨ub,0,none⟩),u1,u2,.pointer (some ⟨ob,0,none⟩),u4,ra,u6,rb,u8,u9,u10,u11,u12,u13,u14,u15,u16,u17,u18,u19,u20,u21,u22,u23,u24,u25,u26,u27,u28,u29,u30,u31,u32,u33,u34,u35,u36,u37,u38,u39,u40,u41,u42,u43,u44,u45,u46,u47,u48,u49,u50,u51,u52,u53,u54,u55,u56,u57,u58,u59,(.tuple #[ra,rb]),.pointer (some ⟨ub,0,none⟩),.pointer (some ⟨ub,0,none⟩),.pointer (some ⟨ub,1,none⟩),.pointer (some ⟨pa,0,none⟩),.pointer (some ⟨ob,4,none⟩),str s,.pointer (some ⟨ob,1,none⟩),.int .i64 na,.pointer (some ⟨ob,2,none⟩),.int .i64 nb,.pointer (some ⟨ob,3,none⟩),.int .i64 nc,(.tuple #[ra,rb]),ra,rb,u76,u77,u78,u79,u80,u81,u82,u83,u84,u85,u86,u87,u88,u89,u90,u91,u92,u93,u94,u95,u96,u97,u98,u99,u100,u101,u102,u103,u104,u105,u106,u107,u108,u109,u110,u111,u112,u113,u114,u115,u116,u117,u118,u119,u120,u121,u122,u123,u124,u125,u126,u127,u128,u129,u130,u131,u132,u133,u134,u135,u136,u137,u138,u139,u140,u141,u142,u143,u144,u145,u146,u147,u148,u149,u150,u151,u152,u153,u154,u155,u156,u157,u158,u159,u160,u161,u162,u163,u164,u165,u166,u167,u168,u169,u170,u171,u172,u173,u174,u175,u176,u177,u178,u179,u180,u181,u182,u183,u184,u185,u186,u187,u188,u189,u190,u191,u192,u193,u194,u195,u196,u197,u198,u199,u200,u201,u202,u203,u204,u205,u206,u207,u208,u209,u210,u211,u212,u213,u214,u215,u216,u217,u218,u219,u220,u221,u222,u223,u224,u225,u226,u227,u228,u229,u230,u231,u232,u233,u234,u235,u236,u237,u238,u239,u240,u241,u242,u243,u244,u245,u246,u247,u248,u249,u250,u251,u252,u253,u254,u255,u256,u257,u258,u259,u260,u261,u262,u263,u264],defers:=ds } w') :
  (regOf 11 Tryz.f57).wp Tryz.prog Q { tmps:=#[.pointer (some ⟨ub,0,none⟩),u1,u2,.pointer (some ⟨ob,0,none⟩),u4,u5,u6,u7,u8,u9,u10,u11,u12,u13,u14,u15,u16,u17,u18,u19,u20,u21,u22,u23,u24,u25,u26,u27,u28,u29,u30,u31,u32,u33,u34,u35,u36,u37,u38,u39,u40,u41,u42,u43,u44,u45,u46,u47,u48,u49,u50,u51,u52,u53,u54,u55,u56,u57,u58,u59,u60,u61,u62,u63,u64,u65,u66,u67,u68,u69,u70,u71,u72,u73,u74,u75,u76,u77,u78,u79,u80,u81,u82,u83,u84,u85,u86,u87,u88,u89,u90,u91,u92,u93,u94,u95,u96,u97,u98,u99,u100,u101,u102,u103,u104,u105,u106,u107,u108,u109,u110,u111,u112,u113,u114,u115,u116,u117,u118,u119,u120,u121,u122,u123,u124,u125,u126,u127,u128,u129,u130,u131,u132,u133,u134,u135,u136,u137,u138,u139,u140,u141,u142,u143,u144,u145,u146,u147,u148,u149,u150,u151,u152,u153,u154,u155,u156,u157,u158,u159,u160,u161,u162,u163,u164,u165,u166,u167,u168,u169,u170,u171,u172,u173,u174,u175,u176,u177,u178,u179,u180,u181,u182,u183,u184,u185,u186,u187,u188,u189,u190,u191,u192,u193,u194,u195,u196,u197,u198,u199,u200,u201,u202,u203,u204,u205,u206,u207,u208,u209,u210,u211,u212,u213,u214,u215,u216,u217,u218,u219,u220,u221,u222,u223,u224,u225,u226,u227,u228,u229,u230,u231,u232,u233,u234,u235,u236,u237,u238,u239,u240,u241,u242,u243,u244,u245,u246,u247,u248,u249,u250,u251,u252,u253,u254,u255,u256,u257,u258,u259,u260,u261,u262,u263,u264],defers:=ds } w:=by
 have HM:=Lib.hid (show Tryz.prog.follows .mixedOrders=true by kernel_rfl)
 conv=>arg 2;whnf
 refine qb1 (A:=?A) (hA:=?hA) HM.out 12 (fun i=>([(.pointer (some ⟨ub,0,none⟩):Value),(.pointer (some ⟨ub,0,none⟩):Value),(.pointer (some ⟨ub,1,none⟩):Value),(.pointer (some ⟨pa,0,none⟩):Value),(.pointer (some ⟨ob,4,none⟩):Value),(str s:Value),(.pointer (some ⟨ob,1,none⟩):Value),(.int .i64 na:Value),(.pointer (some ⟨ob,2,none⟩):Value),(.int .i64 nb:Value),(.pointer (some ⟨ob,3,none⟩):Value),(.int .i64 nc:Value)]:List Value).getD i undef) (fun i r=>(([(fun r=>r:Value→Value),(fun r=>r:Value→Value),(fun r=>(tupAt 0 r):Value→Value),(fun r=>(tupAt 1 r):Value→Value),(fun r=>(tupAt 0 r):Value→Value),(fun r=>(tupAt 1 r):Value→Value)]:List (Value→Value)).getD (i-12) (fun r=>r)) r) (fun W=>W.cell? ⟨ub,1,none⟩=some (.pointer (some ⟨pa,0,none⟩))∧W.cell? ⟨ob,4,none⟩=some (str s)∧W.cell? ⟨ob,1,none⟩=some (.int .i64 na)∧W.cell? ⟨ob,2,none⟩=some (.int .i64 nb)∧W.cell? ⟨ob,3,none⟩=some (.int .i64 nc)) Post (by kernel_rfl) (by kernel_rfl) (by decide) hC0 hC1 ?hs ?he
 case hA=>intro x;simp only [qam,Act.put,List.setIfInBounds_toArray,List.set_cons_zero,List.set_cons_succ,Nat.reduceAdd];rfl
 case hs =>
  refine ⟨fun x w hd hC K hK=>?_,fun x w hd hC K hK=>?_,fun x w hd hC K hK=>?_,fun x w hd hC K hK=>?_,fun x w hd hC K hK=>?_,fun x w hd hC K hK=>?_,fun x w hd hC K hK=>?_,fun x w hd hC K hK=>?_,fun x w hd hC K hK=>?_,fun x w hd hC K hK=>?_,fun x w hd hC K hK=>?_,fun x w hd hC K hK=>?_,fun x hd K hK=>?_,fun x r w hp hd K hK=>?_,fun x r w hp hd K hK=>?_,fun x r w hp hd K hK=>?_,fun x r w hp hd K hK=>?_,fun x r w hp hd K hK=>?_,trivial⟩
  ·dsimp only
   exact qag (by kernel_rfl) hK
  ·dsimp only
   have h0:x 0=.pointer (some ⟨ub,0,none⟩):=qai hd 0 (by kernel_rfl)
   exact qag (by rw [h0];kernel_rfl) hK
  ·dsimp only
   have h1:x 1=.pointer (some ⟨ub,0,none⟩):=qai hd 1 (by kernel_rfl)
   exact qag (by rw [h1];kernel_rfl) hK
  ·dsimp only
   have h2:x 2=.pointer (some ⟨ub,1,none⟩):=qai hd 2 (by kernel_rfl)
   exact qat Tryz.underlying32 rfl rfl (by rw [h2];rfl) (hC.1) hK
  ·dsimp only
   exact qag (by kernel_rfl) hK
  ·dsimp only
   have h4:x 4=.pointer (some ⟨ob,4,none⟩):=qai hd 4 (by kernel_rfl)
   exact qat Tryz.underlying9 rfl rfl (by rw [h4];rfl) (hC.2.1) hK
  ·dsimp only
   exact qag (by kernel_rfl) hK
  ·dsimp only
   have h6:x 6=.pointer (some ⟨ob,1,none⟩):=qai hd 6 (by kernel_rfl)
   exact qat Tryz.underlying3 rfl rfl (by rw [h6];rfl) (hC.2.2.1) hK
  ·dsimp only
   exact qag (by kernel_rfl) hK
  ·dsimp only
   have h8:x 8=.pointer (some ⟨ob,2,none⟩):=qai hd 8 (by kernel_rfl)
   exact qat Tryz.underlying3 rfl rfl (by rw [h8];rfl) (hC.2.2.2.1) hK
  ·dsimp only
   exact qag (by kernel_rfl) hK
  ·dsimp only
   have h10:x 10=.pointer (some ⟨ob,3,none⟩):=qai hd 10 (by kernel_rfl)
   exact qat Tryz.underlying3 rfl rfl (by rw [h10];rfl) (hC.2.2.2.2) hK
  ·dsimp only
   have h3:x 3=.pointer (some ⟨pa,0,none⟩):=qai hd 3 (by kernel_rfl)
   have h5:x 5=str s:=qai hd 5 (by kernel_rfl)
   have h7:x 7=.int .i64 na:=qai hd 7 (by kernel_rfl)
   have h9:x 9=.int .i64 nb:=qai hd 9 (by kernel_rfl)
   have h11:x 11=.int .i64 nc:=qai hd 11 (by kernel_rfl)
   refine qbe (by rw [h3,h5,h7,h9,h11];kernel_rfl) hcall ?_
   rintro e w' ⟨r,rfl,hp⟩
   exact ⟨r,rfl,hK r w' hp⟩
  ·dsimp only
   have h12:x 12=_:=qai hd 12 (by kernel_rfl)
   obtain ⟨ra,rb,rfl⟩:=hpt r w hp
   change x 12=(.tuple #[ra,rb]) at h12
   exact qag (by rw [h12];kernel_rfl) hK
  ·dsimp only
   have h13:x 13=_:=qai hd 13 (by kernel_rfl)
   obtain ⟨ra,rb,rfl⟩:=hpt r w hp
   change x 13=(.tuple #[ra,rb]) at h13
   exact qag (by rw [h13];kernel_rfl) hK
  ·dsimp only
   have h13:x 13=_:=qai hd 13 (by kernel_rfl)
   obtain ⟨ra,rb,rfl⟩:=hpt r w hp
   change x 13=(.tuple #[ra,rb]) at h13
   exact qag (by rw [h13];kernel_rfl) hK
  ·dsimp only
   have h14:x 14=_:=qai hd 14 (by kernel_rfl)
   obtain ⟨ra,rb,rfl⟩:=hpt r w hp
   change x 14=ra at h14
   exact qag (by rw [h14];kernel_rfl) hK
  ·dsimp only
   have h15:x 15=_:=qai hd 15 (by kernel_rfl)
   obtain ⟨ra,rb,rfl⟩:=hpt r w hp
   change x 15=rb at h15
   exact qag (by rw [h15];kernel_rfl) hK
 case he =>
  intro r w3 hp
  obtain ⟨ra,rb,rfl⟩:=hpt r w3 hp
  exact hk ra rb w3 hp
theorem qx6 (ob ub:Nat) (pa pr:Nat) (s t:Bs) (na nb nc:Int) {Q:Exit→Act→World→Prop} {w:World} {u1 u2 u4 u5 u6 u7 u8 u9 u10 u11 u12 u13 u14 u15 u16 u17 u18 u19 u20 u21 u22 u23 u24 u25 u26 u27 u28 u29 u30 u31 u32 u33 u34 u35 u36 u37 u38 u39 u40 u41 u42 u43 u44 u45 u46 u47 u48 u49 u50 u51 u52 u53 u54 u55 u56 u57 u58 u59 u60 u61 u62 u63 u64 u65 u66 u67 u68 u69 u70 u71 u72 u73 u74 u75 u76 u77 u78 u79 u80 u81 u82 u83 u84 u85 u86 u87 u88 u89 u90 u91 u92 u93 u94 u95 u96 u97 u98 u99 u100 u101 u102 u103 u104 u105 u106 u107 u108 u109 u110 u111 u112 u113 u114 u115 u116 u117 u118 u119 u120 u121 u122 u123 u124 u125 u126 u127 u128 u129 u130 u131 u132 u133 u134 u135 u136 u137 u138 u139 u140 u141 u142 u143 u144 u145 u146 u147 u148 u149 u150 u151 u152 u153 u154 u155 u156 u157 u158 u159 u160 u161 u162 u163 u164 u165 u166 u167 u168 u169 u170 u171 u172 u173 u174 u175 u176 u177 u178 u179 u180 u181 u182 u183 u184 u185 u186 u187 u188 u189 u190 u191 u192 u193 u194 u195 u196 u197 u198 u199 u200 u201 u202 u203 u204 u205 u206 u207 u208 u209 u210 u211 u212 u213 u214 u215 u216 u217 u218 u219 u220 u221 u222 u223 u224 u225 u226 u227 u228 u229 u230 u231 u232 u233 u234 u235 u236 u237 u238 u239 u240 u241 u242 u243 u244 u245 u246 u247 u248 u249 u250 u251 u252 u253 u254 u255 u256 u257 u258 u259 u260 u261 u262 u263 u264:Value} {ds:List Deferred} {Post:Value→World→Prop}
  (hC0:(fun W=>W.cell? ⟨ub,2,none⟩=some (.pointer (some ⟨pr,0,none⟩))∧W.cell? ⟨ob,4,none⟩=some (str s)∧W.cell? ⟨ob,1,none⟩=some (.int .i64 na)∧W.cell? ⟨ob,2,none⟩=some (.int .i64 nb)∧W.cell? ⟨ob,3,none⟩=some (.int .i64 nc)) w) (hC1:∀ r W,Post r W→(fun W=>W.cell? ⟨ub,2,none⟩=some (.pointer (some ⟨pr,0,none⟩))∧W.cell? ⟨ob,4,none⟩=some (str s)∧W.cell? ⟨ob,1,none⟩=some (.int .i64 na)∧W.cell? ⟨ob,2,none⟩=some (.int .i64 nb)∧W.cell? ⟨ob,3,none⟩=some (.int .i64 nc)) W) (hpt:∀ r W,Post r W→∃ ra rb,r=.tuple #[ra,rb])
  (hcall:Calls Tryz.prog 104 #[.pointer (some ⟨pr,0,none⟩),str s,.int .i64 na,.int .i64 nb,.int .i64 nc] w.drew (fun e w'=>∃ r,e=.returned r∧Post r w'))
  (hk:∀ (ra rb:Value) (w':World),Post (.tuple #[ra,rb]) w'→Q .normal { tmps:=#[.pointer (some ⟨ub,0,none⟩),u1,u2,.pointer (some ⟨ob,0,none⟩),u4,u5,ra,u7,rb,u9,u10,u11,u12,u13,u14,u15,u16,u17,u18,u19,u20,u21,u22,u23,u24,u25,u26,u27,u28,u29,u30,u31,u32,u33,u34,u35,u36,u37,u38,u39,u40,u41,u42,u43,u44,u45,u46,u47,u48,u49,u50,u51,u52,u53,u54,u55,u56,u57,u58,u59,u60,u61,u62,u63,u64,u65,u66,u67,u68,u69,u70,u71,u72,u73,u74,u75,(.tuple #[ra,rb]),.pointer (some ⟨ub,0,none⟩),.pointer (some ⟨ub,0,none⟩),.pointer (some ⟨ub,2,none⟩),.pointer (some ⟨pr,0,none⟩),.pointer (some ⟨ob,4,none⟩),str s,.pointer (some ⟨ob,1,none⟩),.int .i64 na,.pointer (some ⟨ob,2,none⟩),.int .i64 nb,.pointer (some ⟨ob,3,none⟩),.int .i64 nc,(.tuple #[ra,rb]),ra,rb,u92,u93,u94,u95,u96,u97,u98,u99,u100,u101,u102,u103,u104,u105,u106,u107,u108,u109,u110,u111,u112,u113,u114,u115,u116,u117,u118,u119,u120,u121,u122,u123,u124,u125,u126,u127,u128,u129,u130,u131,u132,u133,u134,u135,u136,u137,u138,u139,u140,u141,u142,u143,u144,u145,u146,u147,u148,u149,u150,u151,u152,u153,u154,u155,u156,u157,u158,u159,u160,u161,u162,u163,u164,u165,u166,u167,u168,u169,u170,u171,u172,u173,u174,u175,u176,u177,u178,u179,u180,u181,u182,u183,u184,u185,u186,u187,u188,u189,u190,u191,u192,u193,u194,u195,u196,u197,u198,u199,u200,u201,u202,u203,u204,u205,u206,u207,u208,u209,u210,u211,u212,u213,u214,u215,u216,u217,u218,u219,u220,u221,u222,u223,u224,u225,u226,u227,u228,u229,u230,u231,u232,u233,u234,u235,u236,u237,u238,u239,u240,u241,u242,u243,u244,u245,u246,u247,u248,u249,u250,u251,u252,u253,u254,u255,u256,u257,u258,u259,u260,u261,u262,u263,u264],defers:=ds } w') :
  (regOf 12 Tryz.f57).wp Tryz.prog Q { tmps:=#[.pointer (some ⟨ub,0,none⟩),u1,u2,.pointer (some ⟨ob,0,none⟩),u4,u5,u6,u7,u8,u9,u10,u11,u12,u13,u14,u15,u16,u17,u18,u19,u20,u21,u22,u23,u24,u25,u26,u27,u28,u29,u30,u31,u32,u33,u34,u35,u36,u37,u38,u39,u40,u41,u42,u43,u44,u45,u46,u47,u48,u49,u50,u51,u52,u53,u54,u55,u56,u57,u58,u59,u60,u61,u62,u63,u64,u65,u66,u67,u68,u69,u70,u71,u72,u73,u74,u75,u76,u77,u78,u79,u80,u81,u82,u83,u84,u85,u86,u87,u88,u89,u90,u91,u92,u93,u94,u95,u96,u97,u98,u99,u100,u101,u102,u103,u104,u105,u106,u107,u108,u109,u110,u111,u112,u113,u114,u115,u116,u117,u118,u119,u120,u121,u122,u123,u124,u125,u126,u127,u128,u129,u130,u131,u132,u133,u134,u135,u136,u137,u138,u139,u140,u141,u142,u143,u144,u145,u146,u147,u148,u149,u150,u151,u152,u153,u154,u155,u156,u157,u158,u159,u160,u161,u162,u163,u164,u165,u166,u167,u168,u169,u170,u171,u172,u173,u174,u175,u176,u177,u178,u179,u180,u181,u182,u183,u184,u185,u186,u187,u188,u189,u190,u191,u192,u193,u194,u195,u196,u197,u198,u199,u200,u201,u202,u203,u204,u205,u206,u207,u208,u209,u210,u211,u212,u213,u214,u215,u216,u217,u218,u219,u220,u221,u222,u223,u224,u225,u226,u227,u228,u229,u230,u231,u232,u233,u234,u235,u236,u237,u238,u239,u240,u241,u242,u243,u244,u245,u246,u247,u248,u249,u250,u251,u252,u253,u254,u255,u256,u257,u258,u259,u260,u261,u262,u263,u264],defers:=ds } w:=by
 have HM:=Lib.hid (show Tryz.prog.follows .mixedOrders=true by kernel_rfl)
 conv=>arg 2;whnf
 refine qb1 (A:=?A) (hA:=?hA) HM.out 12 (fun i=>([(.pointer (some ⟨ub,0,none⟩):Value),(.pointer (some ⟨ub,0,none⟩):Value),(.pointer (some ⟨ub,2,none⟩):Value),(.pointer (some ⟨pr,0,none⟩):Value),(.pointer (some ⟨ob,4,none⟩):Value),(str s:Value),(.pointer (some ⟨ob,1,none⟩):Value),(.int .i64 na:Value),(.pointer (some ⟨ob,2,none⟩):Value),(.int .i64 nb:Value),(.pointer (some ⟨ob,3,none⟩):Value),(.int .i64 nc:Value)]:List Value).getD i undef) (fun i r=>(([(fun r=>r:Value→Value),(fun r=>r:Value→Value),(fun r=>(tupAt 0 r):Value→Value),(fun r=>(tupAt 1 r):Value→Value),(fun r=>(tupAt 0 r):Value→Value),(fun r=>(tupAt 1 r):Value→Value)]:List (Value→Value)).getD (i-12) (fun r=>r)) r) (fun W=>W.cell? ⟨ub,2,none⟩=some (.pointer (some ⟨pr,0,none⟩))∧W.cell? ⟨ob,4,none⟩=some (str s)∧W.cell? ⟨ob,1,none⟩=some (.int .i64 na)∧W.cell? ⟨ob,2,none⟩=some (.int .i64 nb)∧W.cell? ⟨ob,3,none⟩=some (.int .i64 nc)) Post (by kernel_rfl) (by kernel_rfl) (by decide) hC0 hC1 ?hs ?he
 case hA=>intro x;simp only [qam,Act.put,List.setIfInBounds_toArray,List.set_cons_zero,List.set_cons_succ,Nat.reduceAdd];rfl
 case hs =>
  refine ⟨fun x w hd hC K hK=>?_,fun x w hd hC K hK=>?_,fun x w hd hC K hK=>?_,fun x w hd hC K hK=>?_,fun x w hd hC K hK=>?_,fun x w hd hC K hK=>?_,fun x w hd hC K hK=>?_,fun x w hd hC K hK=>?_,fun x w hd hC K hK=>?_,fun x w hd hC K hK=>?_,fun x w hd hC K hK=>?_,fun x w hd hC K hK=>?_,fun x hd K hK=>?_,fun x r w hp hd K hK=>?_,fun x r w hp hd K hK=>?_,fun x r w hp hd K hK=>?_,fun x r w hp hd K hK=>?_,fun x r w hp hd K hK=>?_,trivial⟩
  ·dsimp only
   exact qag (by kernel_rfl) hK
  ·dsimp only
   have h0:x 0=.pointer (some ⟨ub,0,none⟩):=qai hd 0 (by kernel_rfl)
   exact qag (by rw [h0];kernel_rfl) hK
  ·dsimp only
   have h1:x 1=.pointer (some ⟨ub,0,none⟩):=qai hd 1 (by kernel_rfl)
   exact qag (by rw [h1];kernel_rfl) hK
  ·dsimp only
   have h2:x 2=.pointer (some ⟨ub,2,none⟩):=qai hd 2 (by kernel_rfl)
   exact qat Tryz.underlying56 rfl rfl (by rw [h2];rfl) (hC.1) hK
  ·dsimp only
   exact qag (by kernel_rfl) hK
  ·dsimp only
   have h4:x 4=.pointer (some ⟨ob,4,none⟩):=qai hd 4 (by kernel_rfl)
   exact qat Tryz.underlying9 rfl rfl (by rw [h4];rfl) (hC.2.1) hK
  ·dsimp only
   exact qag (by kernel_rfl) hK
  ·dsimp only
   have h6:x 6=.pointer (some ⟨ob,1,none⟩):=qai hd 6 (by kernel_rfl)
   exact qat Tryz.underlying3 rfl rfl (by rw [h6];rfl) (hC.2.2.1) hK
  ·dsimp only
   exact qag (by kernel_rfl) hK
  ·dsimp only
   have h8:x 8=.pointer (some ⟨ob,2,none⟩):=qai hd 8 (by kernel_rfl)
   exact qat Tryz.underlying3 rfl rfl (by rw [h8];rfl) (hC.2.2.2.1) hK
  ·dsimp only
   exact qag (by kernel_rfl) hK
  ·dsimp only
   have h10:x 10=.pointer (some ⟨ob,3,none⟩):=qai hd 10 (by kernel_rfl)
   exact qat Tryz.underlying3 rfl rfl (by rw [h10];rfl) (hC.2.2.2.2) hK
  ·dsimp only
   have h3:x 3=.pointer (some ⟨pr,0,none⟩):=qai hd 3 (by kernel_rfl)
   have h5:x 5=str s:=qai hd 5 (by kernel_rfl)
   have h7:x 7=.int .i64 na:=qai hd 7 (by kernel_rfl)
   have h9:x 9=.int .i64 nb:=qai hd 9 (by kernel_rfl)
   have h11:x 11=.int .i64 nc:=qai hd 11 (by kernel_rfl)
   refine qbe (by rw [h3,h5,h7,h9,h11];kernel_rfl) hcall ?_
   rintro e w' ⟨r,rfl,hp⟩
   exact ⟨r,rfl,hK r w' hp⟩
  ·dsimp only
   have h12:x 12=_:=qai hd 12 (by kernel_rfl)
   obtain ⟨ra,rb,rfl⟩:=hpt r w hp
   change x 12=(.tuple #[ra,rb]) at h12
   exact qag (by rw [h12];kernel_rfl) hK
  ·dsimp only
   have h13:x 13=_:=qai hd 13 (by kernel_rfl)
   obtain ⟨ra,rb,rfl⟩:=hpt r w hp
   change x 13=(.tuple #[ra,rb]) at h13
   exact qag (by rw [h13];kernel_rfl) hK
  ·dsimp only
   have h13:x 13=_:=qai hd 13 (by kernel_rfl)
   obtain ⟨ra,rb,rfl⟩:=hpt r w hp
   change x 13=(.tuple #[ra,rb]) at h13
   exact qag (by rw [h13];kernel_rfl) hK
  ·dsimp only
   have h14:x 14=_:=qai hd 14 (by kernel_rfl)
   obtain ⟨ra,rb,rfl⟩:=hpt r w hp
   change x 14=ra at h14
   exact qag (by rw [h14];kernel_rfl) hK
  ·dsimp only
   have h15:x 15=_:=qai hd 15 (by kernel_rfl)
   obtain ⟨ra,rb,rfl⟩:=hpt r w hp
   change x 15=rb at h15
   exact qag (by rw [h15];kernel_rfl) hK
 case he =>
  intro r w3 hp
  obtain ⟨ra,rb,rfl⟩:=hpt r w3 hp
  exact hk ra rb w3 hp
theorem q6e (ob ub:Nat) (pa pr:Nat) (s t:Bs) (na nb nc:Int) {Q:Exit→Act→World→Prop} {w:World} {u1 u2 u4 u5 u6 u7 u8 u9 u10 u11 u12 u13 u14 u15 u16 u17 u18 u19 u20 u21 u22 u23 u24 u25 u26 u27 u28 u29 u30 u31 u32 u33 u34 u35 u36 u37 u38 u39 u40 u41 u42 u43 u44 u45 u46 u47 u48 u49 u50 u51 u52 u53 u54 u55 u56 u57 u58 u59 u60 u61 u62 u63 u64 u65 u66 u67 u68 u69 u70 u71 u72 u73 u74 u75 u76 u77 u78 u79 u80 u81 u82 u83 u84 u85 u86 u87 u88 u89 u90 u91 u92 u93 u94 u95 u96 u97 u98 u99 u100 u101 u102 u103 u104 u105 u106 u107 u108 u109 u110 u111 u112 u113 u114 u115 u116 u117 u118 u119 u120 u121 u122 u123 u124 u125 u126 u127 u128 u129 u130 u131 u132 u133 u134 u135 u136 u137 u138 u139 u140 u141 u142 u143 u144 u145 u146 u147 u148 u149 u150 u151 u152 u153 u154 u155 u156 u157 u158 u159 u160 u161 u162 u163 u164 u165 u166 u167 u168 u169 u170 u171 u172 u173 u174 u175 u176 u177 u178 u179 u180 u181 u182 u183 u184 u185 u186 u187 u188 u189 u190 u191 u192 u193 u194 u195 u196 u197 u198 u199 u200 u201 u202 u203 u204 u205 u206 u207 u208 u209 u210 u211 u212 u213 u214 u215 u216 u217 u218 u219 u220 u221 u222 u223 u224 u225 u226 u227 u228 u229 u230 u231 u232 u233 u234 u235 u236 u237 u238 u239 u240 u241 u242 u243 u244 u245 u246 u247 u248 u249 u250 u251 u252 u253 u254 u255 u256 u257 u258 u259 u260 u261 u262 u263 u264:Value} {ds:List Deferred} {Post:Value→World→Prop}
  (hC0:(fun W=>W.cell? ⟨ub,1,none⟩=some (.pointer (some ⟨pa,0,none⟩))∧W.cell? ⟨ob,4,none⟩=some (str s)) w) (hC1:∀ r W,Post r W→(fun W=>W.cell? ⟨ub,1,none⟩=some (.pointer (some ⟨pa,0,none⟩))∧W.cell? ⟨ob,4,none⟩=some (str s)) W) (hpt:∀ r W,Post r W→∃ ra rb,r=.tuple #[ra,rb])
  (hcall:Calls Tryz.prog 105 #[.pointer (some ⟨pa,0,none⟩),str s] w.drew (fun e w'=>∃ r,e=.returned r∧Post r w'))
  (hk:∀ (ra rb:Value) (w':World),Post (.tuple #[ra,rb]) w'→Q .normal { tmps:=#[.pointer (some ⟨ub,0,none⟩),u1,u2,.pointer (some ⟨ob,0,none⟩),u4,u5,u6,u7,u8,u9,u10,u11,ra,rb,u14,u15,u16,u17,u18,u19,u20,u21,u22,u23,u24,u25,u26,u27,u28,u29,u30,u31,u32,u33,u34,u35,u36,u37,u38,u39,u40,u41,u42,u43,u44,u45,u46,u47,u48,u49,u50,u51,u52,u53,u54,u55,u56,u57,u58,u59,u60,u61,u62,u63,u64,u65,u66,u67,u68,u69,u70,u71,u72,u73,u74,u75,u76,u77,u78,u79,u80,u81,u82,u83,u84,u85,u86,u87,u88,u89,u90,u91,u92,u93,u94,u95,u96,u97,u98,u99,u100,u101,u102,u103,u104,u105,u106,u107,u108,u109,u110,u111,u112,u113,u114,u115,u116,u117,u118,u119,u120,u121,u122,u123,u124,u125,u126,u127,u128,u129,u130,u131,u132,u133,u134,u135,u136,u137,u138,u139,u140,u141,u142,u143,u144,u145,(.tuple #[ra,rb]),.pointer (some ⟨ub,0,none⟩),.pointer (some ⟨ub,0,none⟩),.pointer (some ⟨ub,1,none⟩),.pointer (some ⟨pa,0,none⟩),.pointer (some ⟨ob,4,none⟩),str s,(.tuple #[ra,rb]),ra,rb,u156,u157,u158,u159,u160,u161,u162,u163,u164,u165,u166,u167,u168,u169,u170,u171,u172,u173,u174,u175,u176,u177,u178,u179,u180,u181,u182,u183,u184,u185,u186,u187,u188,u189,u190,u191,u192,u193,u194,u195,u196,u197,u198,u199,u200,u201,u202,u203,u204,u205,u206,u207,u208,u209,u210,u211,u212,u213,u214,u215,u216,u217,u218,u219,u220,u221,u222,u223,u224,u225,u226,u227,u228,u229,u230,u231,u232,u233,u234,u235,u236,u237,u238,u239,u240,u241,u242,u243,u244,u245,u246,u247,u248,u249,u250,u251,u252,u253,u254,u255,u256,u257,u258,u259,u260,u261,u262,u263,u264],defers:=ds } w') :
  (regOf 26 Tryz.f57).wp Tryz.prog Q { tmps:=#[.pointer (some ⟨ub,0,none⟩),u1,u2,.pointer (some ⟨ob,0,none⟩),u4,u5,u6,u7,u8,u9,u10,u11,u12,u13,u14,u15,u16,u17,u18,u19,u20,u21,u22,u23,u24,u25,u26,u27,u28,u29,u30,u31,u32,u33,u34,u35,u36,u37,u38,u39,u40,u41,u42,u43,u44,u45,u46,u47,u48,u49,u50,u51,u52,u53,u54,u55,u56,u57,u58,u59,u60,u61,u62,u63,u64,u65,u66,u67,u68,u69,u70,u71,u72,u73,u74,u75,u76,u77,u78,u79,u80,u81,u82,u83,u84,u85,u86,u87,u88,u89,u90,u91,u92,u93,u94,u95,u96,u97,u98,u99,u100,u101,u102,u103,u104,u105,u106,u107,u108,u109,u110,u111,u112,u113,u114,u115,u116,u117,u118,u119,u120,u121,u122,u123,u124,u125,u126,u127,u128,u129,u130,u131,u132,u133,u134,u135,u136,u137,u138,u139,u140,u141,u142,u143,u144,u145,u146,u147,u148,u149,u150,u151,u152,u153,u154,u155,u156,u157,u158,u159,u160,u161,u162,u163,u164,u165,u166,u167,u168,u169,u170,u171,u172,u173,u174,u175,u176,u177,u178,u179,u180,u181,u182,u183,u184,u185,u186,u187,u188,u189,u190,u191,u192,u193,u194,u195,u196,u197,u198,u199,u200,u201,u202,u203,u204,u205,u206,u207,u208,u209,u210,u211,u212,u213,u214,u215,u216,u217,u218,u219,u220,u221,u222,u223,u224,u225,u226,u227,u228,u229,u230,u231,u232,u233,u234,u235,u236,u237,u238,u239,u240,u241,u242,u243,u244,u245,u246,u247,u248,u249,u250,u251,u252,u253,u254,u255,u256,u257,u258,u259,u260,u261,u262,u263,u264],defers:=ds } w:=by
 have HM:=Lib.hid (show Tryz.prog.follows .mixedOrders=true by kernel_rfl)
 conv=>arg 2;whnf
 refine qb1 (A:=?A) (hA:=?hA) HM.out 6 (fun i=>([(.pointer (some ⟨ub,0,none⟩):Value),(.pointer (some ⟨ub,0,none⟩):Value),(.pointer (some ⟨ub,1,none⟩):Value),(.pointer (some ⟨pa,0,none⟩):Value),(.pointer (some ⟨ob,4,none⟩):Value),(str s:Value)]:List Value).getD i undef) (fun i r=>(([(fun r=>r:Value→Value),(fun r=>r:Value→Value),(fun r=>(tupAt 0 r):Value→Value),(fun r=>(tupAt 1 r):Value→Value),(fun r=>(tupAt 0 r):Value→Value),(fun r=>(tupAt 1 r):Value→Value)]:List (Value→Value)).getD (i-6) (fun r=>r)) r) (fun W=>W.cell? ⟨ub,1,none⟩=some (.pointer (some ⟨pa,0,none⟩))∧W.cell? ⟨ob,4,none⟩=some (str s)) Post (by kernel_rfl) (by kernel_rfl) (by decide) hC0 hC1 ?hs ?he
 case hA=>intro x;simp only [qam,Act.put,List.setIfInBounds_toArray,List.set_cons_zero,List.set_cons_succ,Nat.reduceAdd];rfl
 case hs =>
  refine ⟨fun x w hd hC K hK=>?_,fun x w hd hC K hK=>?_,fun x w hd hC K hK=>?_,fun x w hd hC K hK=>?_,fun x w hd hC K hK=>?_,fun x w hd hC K hK=>?_,fun x hd K hK=>?_,fun x r w hp hd K hK=>?_,fun x r w hp hd K hK=>?_,fun x r w hp hd K hK=>?_,fun x r w hp hd K hK=>?_,fun x r w hp hd K hK=>?_,trivial⟩
  ·dsimp only
   exact qag (by kernel_rfl) hK
  ·dsimp only
   have h0:x 0=.pointer (some ⟨ub,0,none⟩):=qai hd 0 (by kernel_rfl)
   exact qag (by rw [h0];kernel_rfl) hK
  ·dsimp only
   have h1:x 1=.pointer (some ⟨ub,0,none⟩):=qai hd 1 (by kernel_rfl)
   exact qag (by rw [h1];kernel_rfl) hK
  ·dsimp only
   have h2:x 2=.pointer (some ⟨ub,1,none⟩):=qai hd 2 (by kernel_rfl)
   exact qat Tryz.underlying32 rfl rfl (by rw [h2];rfl) (hC.1) hK
  ·dsimp only
   exact qag (by kernel_rfl) hK
  ·dsimp only
   have h4:x 4=.pointer (some ⟨ob,4,none⟩):=qai hd 4 (by kernel_rfl)
   exact qat Tryz.underlying9 rfl rfl (by rw [h4];rfl) (hC.2) hK
  ·dsimp only
   have h3:x 3=.pointer (some ⟨pa,0,none⟩):=qai hd 3 (by kernel_rfl)
   have h5:x 5=str s:=qai hd 5 (by kernel_rfl)
   refine qbe (by rw [h3,h5];kernel_rfl) hcall ?_
   rintro e w' ⟨r,rfl,hp⟩
   exact ⟨r,rfl,hK r w' hp⟩
  ·dsimp only
   have h6:x 6=_:=qai hd 6 (by kernel_rfl)
   obtain ⟨ra,rb,rfl⟩:=hpt r w hp
   change x 6=(.tuple #[ra,rb]) at h6
   exact qag (by rw [h6];kernel_rfl) hK
  ·dsimp only
   have h7:x 7=_:=qai hd 7 (by kernel_rfl)
   obtain ⟨ra,rb,rfl⟩:=hpt r w hp
   change x 7=(.tuple #[ra,rb]) at h7
   exact qag (by rw [h7];kernel_rfl) hK
  ·dsimp only
   have h7:x 7=_:=qai hd 7 (by kernel_rfl)
   obtain ⟨ra,rb,rfl⟩:=hpt r w hp
   change x 7=(.tuple #[ra,rb]) at h7
   exact qag (by rw [h7];kernel_rfl) hK
  ·dsimp only
   have h8:x 8=_:=qai hd 8 (by kernel_rfl)
   obtain ⟨ra,rb,rfl⟩:=hpt r w hp
   change x 8=ra at h8
   exact qag (by rw [h8];kernel_rfl) hK
  ·dsimp only
   have h9:x 9=_:=qai hd 9 (by kernel_rfl)
   obtain ⟨ra,rb,rfl⟩:=hpt r w hp
   change x 9=rb at h9
   exact qag (by rw [h9];kernel_rfl) hK
 case he =>
  intro r w3 hp
  obtain ⟨ra,rb,rfl⟩:=hpt r w3 hp
  exact hk ra rb w3 hp
theorem qya (ob ub:Nat) (pa pr:Nat) (s t:Bs) (na nb nc:Int) {Q:Exit→Act→World→Prop} {w:World} {u1 u2 u4 u5 u6 u7 u8 u9 u10 u11 u12 u13 u14 u15 u16 u17 u18 u19 u20 u21 u22 u23 u24 u25 u26 u27 u28 u29 u30 u31 u32 u33 u34 u35 u36 u37 u38 u39 u40 u41 u42 u43 u44 u45 u46 u47 u48 u49 u50 u51 u52 u53 u54 u55 u56 u57 u58 u59 u60 u61 u62 u63 u64 u65 u66 u67 u68 u69 u70 u71 u72 u73 u74 u75 u76 u77 u78 u79 u80 u81 u82 u83 u84 u85 u86 u87 u88 u89 u90 u91 u92 u93 u94 u95 u96 u97 u98 u99 u100 u101 u102 u103 u104 u105 u106 u107 u108 u109 u110 u111 u112 u113 u114 u115 u116 u117 u118 u119 u120 u121 u122 u123 u124 u125 u126 u127 u128 u129 u130 u131 u132 u133 u134 u135 u136 u137 u138 u139 u140 u141 u142 u143 u144 u145 u146 u147 u148 u149 u150 u151 u152 u153 u154 u155 u156 u157 u158 u159 u160 u161 u162 u163 u164 u165 u166 u167 u168 u169 u170 u171 u172 u173 u174 u175 u176 u177 u178 u179 u180 u181 u182 u183 u184 u185 u186 u187 u188 u189 u190 u191 u192 u193 u194 u195 u196 u197 u198 u199 u200 u201 u202 u203 u204 u205 u206 u207 u208 u209 u210 u211 u212 u213 u214 u215 u216 u217 u218 u219 u220 u221 u222 u223 u224 u225 u226 u227 u228 u229 u230 u231 u232 u233 u234 u235 u236 u237 u238 u239 u240 u241 u242 u243 u244 u245 u246 u247 u248 u249 u250 u251 u252 u253 u254 u255 u256 u257 u258 u259 u260 u261 u262 u263 u264:Value} {ds:List Deferred} {Post:Value→World→Prop}
  (hC0:(fun W=>W.cell? ⟨ub,2,none⟩=some (.pointer (some ⟨pr,0,none⟩))∧W.cell? ⟨ob,4,none⟩=some (str s)) w) (hC1:∀ r W,Post r W→(fun W=>W.cell? ⟨ub,2,none⟩=some (.pointer (some ⟨pr,0,none⟩))∧W.cell? ⟨ob,4,none⟩=some (str s)) W) (hpt:∀ r W,Post r W→∃ ra rb,r=.tuple #[ra,rb])
  (hcall:Calls Tryz.prog 106 #[.pointer (some ⟨pr,0,none⟩),str s] w.drew (fun e w'=>∃ r,e=.returned r∧Post r w'))
  (hk:∀ (ra rb:Value) (w':World),Post (.tuple #[ra,rb]) w'→Q .normal { tmps:=#[.pointer (some ⟨ub,0,none⟩),u1,u2,.pointer (some ⟨ob,0,none⟩),u4,u5,u6,u7,u8,u9,u10,u11,u12,u13,ra,rb,u16,u17,u18,u19,u20,u21,u22,u23,u24,u25,u26,u27,u28,u29,u30,u31,u32,u33,u34,u35,u36,u37,u38,u39,u40,u41,u42,u43,u44,u45,u46,u47,u48,u49,u50,u51,u52,u53,u54,u55,u56,u57,u58,u59,u60,u61,u62,u63,u64,u65,u66,u67,u68,u69,u70,u71,u72,u73,u74,u75,u76,u77,u78,u79,u80,u81,u82,u83,u84,u85,u86,u87,u88,u89,u90,u91,u92,u93,u94,u95,u96,u97,u98,u99,u100,u101,u102,u103,u104,u105,u106,u107,u108,u109,u110,u111,u112,u113,u114,u115,u116,u117,u118,u119,u120,u121,u122,u123,u124,u125,u126,u127,u128,u129,u130,u131,u132,u133,u134,u135,u136,u137,u138,u139,u140,u141,u142,u143,u144,u145,u146,u147,u148,u149,u150,u151,u152,u153,u154,u155,(.tuple #[ra,rb]),.pointer (some ⟨ub,0,none⟩),.pointer (some ⟨ub,0,none⟩),.pointer (some ⟨ub,2,none⟩),.pointer (some ⟨pr,0,none⟩),.pointer (some ⟨ob,4,none⟩),str s,(.tuple #[ra,rb]),ra,rb,u166,u167,u168,u169,u170,u171,u172,u173,u174,u175,u176,u177,u178,u179,u180,u181,u182,u183,u184,u185,u186,u187,u188,u189,u190,u191,u192,u193,u194,u195,u196,u197,u198,u199,u200,u201,u202,u203,u204,u205,u206,u207,u208,u209,u210,u211,u212,u213,u214,u215,u216,u217,u218,u219,u220,u221,u222,u223,u224,u225,u226,u227,u228,u229,u230,u231,u232,u233,u234,u235,u236,u237,u238,u239,u240,u241,u242,u243,u244,u245,u246,u247,u248,u249,u250,u251,u252,u253,u254,u255,u256,u257,u258,u259,u260,u261,u262,u263,u264],defers:=ds } w') :
  (regOf 27 Tryz.f57).wp Tryz.prog Q { tmps:=#[.pointer (some ⟨ub,0,none⟩),u1,u2,.pointer (some ⟨ob,0,none⟩),u4,u5,u6,u7,u8,u9,u10,u11,u12,u13,u14,u15,u16,u17,u18,u19,u20,u21,u22,u23,u24,u25,u26,u27,u28,u29,u30,u31,u32,u33,u34,u35,u36,u37,u38,u39,u40,u41,u42,u43,u44,u45,u46,u47,u48,u49,u50,u51,u52,u53,u54,u55,u56,u57,u58,u59,u60,u61,u62,u63,u64,u65,u66,u67,u68,u69,u70,u71,u72,u73,u74,u75,u76,u77,u78,u79,u80,u81,u82,u83,u84,u85,u86,u87,u88,u89,u90,u91,u92,u93,u94,u95,u96,u97,u98,u99,u100,u101,u102,u103,u104,u105,u106,u107,u108,u109,u110,u111,u112,u113,u114,u115,u116,u117,u118,u119,u120,u121,u122,u123,u124,u125,u126,u127,u128,u129,u130,u131,u132,u133,u134,u135,u136,u137,u138,u139,u140,u141,u142,u143,u144,u145,u146,u147,u148,u149,u150,u151,u152,u153,u154,u155,u156,u157,u158,u159,u160,u161,u162,u163,u164,u165,u166,u167,u168,u169,u170,u171,u172,u173,u174,u175,u176,u177,u178,u179,u180,u181,u182,u183,u184,u185,u186,u187,u188,u189,u190,u191,u192,u193,u194,u195,u196,u197,u198,u199,u200,u201,u202,u203,u204,u205,u206,u207,u208,u209,u210,u211,u212,u213,u214,u215,u216,u217,u218,u219,u220,u221,u222,u223,u224,u225,u226,u227,u228,u229,u230,u231,u232,u233,u234,u235,u236,u237,u238,u239,u240,u241,u242,u243,u244,u245,u246,u247,u248,u249,u250,u251,u252,u253,u254,u255,u256,u257,u258,u259,u260,u261,u262,u263,u264],defers:=ds } w:=by
 have HM:=Lib.hid (show Tryz.prog.follows .mixedOrders=true by kernel_rfl)
 conv=>arg 2;whnf
 refine qb1 (A:=?A) (hA:=?hA) HM.out 6 (fun i=>([(.pointer (some ⟨ub,0,none⟩):Value),(.pointer (some ⟨ub,0,none⟩):Value),(.pointer (some ⟨ub,2,none⟩):Value),(.pointer (some ⟨pr,0,none⟩):Value),(.pointer (some ⟨ob,4,none⟩):Value),(str s:Value)]:List Value).getD i undef) (fun i r=>(([(fun r=>r:Value→Value),(fun r=>r:Value→Value),(fun r=>(tupAt 0 r):Value→Value),(fun r=>(tupAt 1 r):Value→Value),(fun r=>(tupAt 0 r):Value→Value),(fun r=>(tupAt 1 r):Value→Value)]:List (Value→Value)).getD (i-6) (fun r=>r)) r) (fun W=>W.cell? ⟨ub,2,none⟩=some (.pointer (some ⟨pr,0,none⟩))∧W.cell? ⟨ob,4,none⟩=some (str s)) Post (by kernel_rfl) (by kernel_rfl) (by decide) hC0 hC1 ?hs ?he
 case hA=>intro x;simp only [qam,Act.put,List.setIfInBounds_toArray,List.set_cons_zero,List.set_cons_succ,Nat.reduceAdd];rfl
 case hs =>
  refine ⟨fun x w hd hC K hK=>?_,fun x w hd hC K hK=>?_,fun x w hd hC K hK=>?_,fun x w hd hC K hK=>?_,fun x w hd hC K hK=>?_,fun x w hd hC K hK=>?_,fun x hd K hK=>?_,fun x r w hp hd K hK=>?_,fun x r w hp hd K hK=>?_,fun x r w hp hd K hK=>?_,fun x r w hp hd K hK=>?_,fun x r w hp hd K hK=>?_,trivial⟩
  ·dsimp only
   exact qag (by kernel_rfl) hK
  ·dsimp only
   have h0:x 0=.pointer (some ⟨ub,0,none⟩):=qai hd 0 (by kernel_rfl)
   exact qag (by rw [h0];kernel_rfl) hK
  ·dsimp only
   have h1:x 1=.pointer (some ⟨ub,0,none⟩):=qai hd 1 (by kernel_rfl)
   exact qag (by rw [h1];kernel_rfl) hK
  ·dsimp only
   have h2:x 2=.pointer (some ⟨ub,2,none⟩):=qai hd 2 (by kernel_rfl)
   exact qat Tryz.underlying56 rfl rfl (by rw [h2];rfl) (hC.1) hK
  ·dsimp only
   exact qag (by kernel_rfl) hK
  ·dsimp only
   have h4:x 4=.pointer (some ⟨ob,4,none⟩):=qai hd 4 (by kernel_rfl)
   exact qat Tryz.underlying9 rfl rfl (by rw [h4];rfl) (hC.2) hK
  ·dsimp only
   have h3:x 3=.pointer (some ⟨pr,0,none⟩):=qai hd 3 (by kernel_rfl)
   have h5:x 5=str s:=qai hd 5 (by kernel_rfl)
   refine qbe (by rw [h3,h5];kernel_rfl) hcall ?_
   rintro e w' ⟨r,rfl,hp⟩
   exact ⟨r,rfl,hK r w' hp⟩
  ·dsimp only
   have h6:x 6=_:=qai hd 6 (by kernel_rfl)
   obtain ⟨ra,rb,rfl⟩:=hpt r w hp
   change x 6=(.tuple #[ra,rb]) at h6
   exact qag (by rw [h6];kernel_rfl) hK
  ·dsimp only
   have h7:x 7=_:=qai hd 7 (by kernel_rfl)
   obtain ⟨ra,rb,rfl⟩:=hpt r w hp
   change x 7=(.tuple #[ra,rb]) at h7
   exact qag (by rw [h7];kernel_rfl) hK
  ·dsimp only
   have h7:x 7=_:=qai hd 7 (by kernel_rfl)
   obtain ⟨ra,rb,rfl⟩:=hpt r w hp
   change x 7=(.tuple #[ra,rb]) at h7
   exact qag (by rw [h7];kernel_rfl) hK
  ·dsimp only
   have h8:x 8=_:=qai hd 8 (by kernel_rfl)
   obtain ⟨ra,rb,rfl⟩:=hpt r w hp
   change x 8=ra at h8
   exact qag (by rw [h8];kernel_rfl) hK
  ·dsimp only
   have h9:x 9=_:=qai hd 9 (by kernel_rfl)
   obtain ⟨ra,rb,rfl⟩:=hpt r w hp
   change x 9=rb at h9
   exact qag (by rw [h9];kernel_rfl) hK
 case he =>
  intro r w3 hp
  obtain ⟨ra,rb,rfl⟩:=hpt r w3 hp
  exact hk ra rb w3 hp
theorem q6k (ob ub:Nat) (pa pr:Nat) (s t:Bs) (na nb nc:Int) {Q:Exit→Act→World→Prop} {w:World} {u1 u2 u4 u5 u6 u7 u8 u9 u10 u11 u12 u13 u14 u15 u16 u17 u18 u19 u20 u21 u22 u23 u24 u25 u26 u27 u28 u29 u30 u31 u32 u33 u34 u35 u36 u37 u38 u39 u40 u41 u42 u43 u44 u45 u46 u47 u48 u49 u50 u51 u52 u53 u54 u55 u56 u57 u58 u59 u60 u61 u62 u63 u64 u65 u66 u67 u68 u69 u70 u71 u72 u73 u74 u75 u76 u77 u78 u79 u80 u81 u82 u83 u84 u85 u86 u87 u88 u89 u90 u91 u92 u93 u94 u95 u96 u97 u98 u99 u100 u101 u102 u103 u104 u105 u106 u107 u108 u109 u110 u111 u112 u113 u114 u115 u116 u117 u118 u119 u120 u121 u122 u123 u124 u125 u126 u127 u128 u129 u130 u131 u132 u133 u134 u135 u136 u137 u138 u139 u140 u141 u142 u143 u144 u145 u146 u147 u148 u149 u150 u151 u152 u153 u154 u155 u156 u157 u158 u159 u160 u161 u162 u163 u164 u165 u166 u167 u168 u169 u170 u171 u172 u173 u174 u175 u176 u177 u178 u179 u180 u181 u182 u183 u184 u185 u186 u187 u188 u189 u190 u191 u192 u193 u194 u195 u196 u197 u198 u199 u200 u201 u202 u203 u204 u205 u206 u207 u208 u209 u210 u211 u212 u213 u214 u215 u216 u217 u218 u219 u220 u221 u222 u223 u224 u225 u226 u227 u228 u229 u230 u231 u232 u233 u234 u235 u236 u237 u238 u239 u240 u241 u242 u243 u244 u245 u246 u247 u248 u249 u250 u251 u252 u253 u254 u255 u256 u257 u258 u259 u260 u261 u262 u263 u264:Value} {ds:List Deferred} {Post:Value→World→Prop}
  (hC0:(fun W=>W.cell? ⟨ub,1,none⟩=some (.pointer (some ⟨pa,0,none⟩))∧W.cell? ⟨ob,4,none⟩=some (str s)) w) (hC1:∀ r W,Post r W→(fun W=>W.cell? ⟨ub,1,none⟩=some (.pointer (some ⟨pa,0,none⟩))∧W.cell? ⟨ob,4,none⟩=some (str s)) W) (hpt:∀ r W,Post r W→∃ ra rb,r=.tuple #[ra,rb])
  (hcall:Calls Tryz.prog 88 #[.pointer (some ⟨pa,0,none⟩),str s] w.drew (fun e w'=>∃ r,e=.returned r∧Post r w'))
  (hk:∀ (ra rb:Value) (w':World),Post (.tuple #[ra,rb]) w'→Q .normal { tmps:=#[.pointer (some ⟨ub,0,none⟩),u1,u2,.pointer (some ⟨ob,0,none⟩),u4,u5,u6,u7,u8,u9,u10,u11,u12,u13,u14,u15,u16,u17,ra,rb,u20,u21,u22,u23,u24,u25,u26,u27,u28,u29,u30,u31,u32,u33,u34,u35,u36,u37,u38,u39,u40,u41,u42,u43,u44,u45,u46,u47,u48,u49,u50,u51,u52,u53,u54,u55,u56,u57,u58,u59,u60,u61,u62,u63,u64,u65,u66,u67,u68,u69,u70,u71,u72,u73,u74,u75,u76,u77,u78,u79,u80,u81,u82,u83,u84,u85,u86,u87,u88,u89,u90,u91,u92,u93,u94,u95,u96,u97,u98,u99,u100,u101,u102,u103,u104,u105,u106,u107,u108,u109,u110,u111,u112,u113,u114,u115,u116,u117,u118,u119,u120,u121,u122,u123,u124,u125,u126,u127,u128,u129,u130,u131,u132,u133,u134,u135,u136,u137,u138,u139,u140,u141,u142,u143,u144,u145,u146,u147,u148,u149,u150,u151,u152,u153,u154,u155,u156,u157,u158,u159,u160,u161,u162,u163,u164,u165,u166,u167,u168,u169,u170,u171,u172,u173,u174,u175,u176,u177,u178,u179,u180,u181,u182,u183,u184,u185,u186,u187,(.tuple #[ra,rb]),.pointer (some ⟨ub,0,none⟩),.pointer (some ⟨ub,0,none⟩),.pointer (some ⟨ub,1,none⟩),.pointer (some ⟨pa,0,none⟩),.pointer (some ⟨ob,4,none⟩),str s,(.tuple #[ra,rb]),ra,rb,u198,u199,u200,u201,u202,u203,u204,u205,u206,u207,u208,u209,u210,u211,u212,u213,u214,u215,u216,u217,u218,u219,u220,u221,u222,u223,u224,u225,u226,u227,u228,u229,u230,u231,u232,u233,u234,u235,u236,u237,u238,u239,u240,u241,u242,u243,u244,u245,u246,u247,u248,u249,u250,u251,u252,u253,u254,u255,u256,u257,u258,u259,u260,u261,u262,u263,u264],defers:=ds } w') :
  (regOf 32 Tryz.f57).wp Tryz.prog Q { tmps:=#[.pointer (some ⟨ub,0,none⟩),u1,u2,.pointer (some ⟨ob,0,none⟩),u4,u5,u6,u7,u8,u9,u10,u11,u12,u13,u14,u15,u16,u17,u18,u19,u20,u21,u22,u23,u24,u25,u26,u27,u28,u29,u30,u31,u32,u33,u34,u35,u36,u37,u38,u39,u40,u41,u42,u43,u44,u45,u46,u47,u48,u49,u50,u51,u52,u53,u54,u55,u56,u57,u58,u59,u60,u61,u62,u63,u64,u65,u66,u67,u68,u69,u70,u71,u72,u73,u74,u75,u76,u77,u78,u79,u80,u81,u82,u83,u84,u85,u86,u87,u88,u89,u90,u91,u92,u93,u94,u95,u96,u97,u98,u99,u100,u101,u102,u103,u104,u105,u106,u107,u108,u109,u110,u111,u112,u113,u114,u115,u116,u117,u118,u119,u120,u121,u122,u123,u124,u125,u126,u127,u128,u129,u130,u131,u132,u133,u134,u135,u136,u137,u138,u139,u140,u141,u142,u143,u144,u145,u146,u147,u148,u149,u150,u151,u152,u153,u154,u155,u156,u157,u158,u159,u160,u161,u162,u163,u164,u165,u166,u167,u168,u169,u170,u171,u172,u173,u174,u175,u176,u177,u178,u179,u180,u181,u182,u183,u184,u185,u186,u187,u188,u189,u190,u191,u192,u193,u194,u195,u196,u197,u198,u199,u200,u201,u202,u203,u204,u205,u206,u207,u208,u209,u210,u211,u212,u213,u214,u215,u216,u217,u218,u219,u220,u221,u222,u223,u224,u225,u226,u227,u228,u229,u230,u231,u232,u233,u234,u235,u236,u237,u238,u239,u240,u241,u242,u243,u244,u245,u246,u247,u248,u249,u250,u251,u252,u253,u254,u255,u256,u257,u258,u259,u260,u261,u262,u263,u264],defers:=ds } w:=by
 have HM:=Lib.hid (show Tryz.prog.follows .mixedOrders=true by kernel_rfl)
 conv=>arg 2;whnf
 refine qb1 (A:=?A) (hA:=?hA) HM.out 6 (fun i=>([(.pointer (some ⟨ub,0,none⟩):Value),(.pointer (some ⟨ub,0,none⟩):Value),(.pointer (some ⟨ub,1,none⟩):Value),(.pointer (some ⟨pa,0,none⟩):Value),(.pointer (some ⟨ob,4,none⟩):Value),(str s:Value)]:List Value).getD i undef) (fun i r=>(([(fun r=>r:Value→Value),(fun r=>r:Value→Value),(fun r=>(tupAt 0 r):Value→Value),(fun r=>(tupAt 1 r):Value→Value),(fun r=>(tupAt 0 r):Value→Value),(fun r=>(tupAt 1 r):Value→Value)]:List (Value→Value)).getD (i-6) (fun r=>r)) r) (fun W=>W.cell? ⟨ub,1,none⟩=some (.pointer (some ⟨pa,0,none⟩))∧W.cell? ⟨ob,4,none⟩=some (str s)) Post (by kernel_rfl) (by kernel_rfl) (by decide) hC0 hC1 ?hs ?he
 case hA=>intro x;simp only [qam,Act.put,List.setIfInBounds_toArray,List.set_cons_zero,List.set_cons_succ,Nat.reduceAdd];rfl
 case hs =>
  refine ⟨fun x w hd hC K hK=>?_,fun x w hd hC K hK=>?_,fun x w hd hC K hK=>?_,fun x w hd hC K hK=>?_,fun x w hd hC K hK=>?_,fun x w hd hC K hK=>?_,fun x hd K hK=>?_,fun x r w hp hd K hK=>?_,fun x r w hp hd K hK=>?_,fun x r w hp hd K hK=>?_,fun x r w hp hd K hK=>?_,fun x r w hp hd K hK=>?_,trivial⟩
  ·dsimp only
   exact qag (by kernel_rfl) hK
  ·dsimp only
   have h0:x 0=.pointer (some ⟨ub,0,none⟩):=qai hd 0 (by kernel_rfl)
   exact qag (by rw [h0];kernel_rfl) hK
  ·dsimp only
   have h1:x 1=.pointer (some ⟨ub,0,none⟩):=qai hd 1 (by kernel_rfl)
   exact qag (by rw [h1];kernel_rfl) hK
  ·dsimp only
   have h2:x 2=.pointer (some ⟨ub,1,none⟩):=qai hd 2 (by kernel_rfl)
   exact qat Tryz.underlying32 rfl rfl (by rw [h2];rfl) (hC.1) hK
  ·dsimp only
   exact qag (by kernel_rfl) hK
  ·dsimp only
   have h4:x 4=.pointer (some ⟨ob,4,none⟩):=qai hd 4 (by kernel_rfl)
   exact qat Tryz.underlying9 rfl rfl (by rw [h4];rfl) (hC.2) hK
  ·dsimp only
   have h3:x 3=.pointer (some ⟨pa,0,none⟩):=qai hd 3 (by kernel_rfl)
   have h5:x 5=str s:=qai hd 5 (by kernel_rfl)
   refine qbe (by rw [h3,h5];kernel_rfl) hcall ?_
   rintro e w' ⟨r,rfl,hp⟩
   exact ⟨r,rfl,hK r w' hp⟩
  ·dsimp only
   have h6:x 6=_:=qai hd 6 (by kernel_rfl)
   obtain ⟨ra,rb,rfl⟩:=hpt r w hp
   change x 6=(.tuple #[ra,rb]) at h6
   exact qag (by rw [h6];kernel_rfl) hK
  ·dsimp only
   have h7:x 7=_:=qai hd 7 (by kernel_rfl)
   obtain ⟨ra,rb,rfl⟩:=hpt r w hp
   change x 7=(.tuple #[ra,rb]) at h7
   exact qag (by rw [h7];kernel_rfl) hK
  ·dsimp only
   have h7:x 7=_:=qai hd 7 (by kernel_rfl)
   obtain ⟨ra,rb,rfl⟩:=hpt r w hp
   change x 7=(.tuple #[ra,rb]) at h7
   exact qag (by rw [h7];kernel_rfl) hK
  ·dsimp only
   have h8:x 8=_:=qai hd 8 (by kernel_rfl)
   obtain ⟨ra,rb,rfl⟩:=hpt r w hp
   change x 8=ra at h8
   exact qag (by rw [h8];kernel_rfl) hK
  ·dsimp only
   have h9:x 9=_:=qai hd 9 (by kernel_rfl)
   obtain ⟨ra,rb,rfl⟩:=hpt r w hp
   change x 9=rb at h9
   exact qag (by rw [h9];kernel_rfl) hK
 case he =>
  intro r w3 hp
  obtain ⟨ra,rb,rfl⟩:=hpt r w3 hp
  exact hk ra rb w3 hp
theorem qx1 (ob ub:Nat) (pa pr:Nat) (s t:Bs) (na nb nc:Int) {Q:Exit→Act→World→Prop} {w:World} {u1 u2 u4 u5 u6 u7 u8 u9 u10 u11 u12 u13 u14 u15 u16 u17 u18 u19 u20 u21 u22 u23 u24 u25 u26 u27 u28 u29 u30 u31 u32 u33 u34 u35 u36 u37 u38 u39 u40 u41 u42 u43 u44 u45 u46 u47 u48 u49 u50 u51 u52 u53 u54 u55 u56 u57 u58 u59 u60 u61 u62 u63 u64 u65 u66 u67 u68 u69 u70 u71 u72 u73 u74 u75 u76 u77 u78 u79 u80 u81 u82 u83 u84 u85 u86 u87 u88 u89 u90 u91 u92 u93 u94 u95 u96 u97 u98 u99 u100 u101 u102 u103 u104 u105 u106 u107 u108 u109 u110 u111 u112 u113 u114 u115 u116 u117 u118 u119 u120 u121 u122 u123 u124 u125 u126 u127 u128 u129 u130 u131 u132 u133 u134 u135 u136 u137 u138 u139 u140 u141 u142 u143 u144 u145 u146 u147 u148 u149 u150 u151 u152 u153 u154 u155 u156 u157 u158 u159 u160 u161 u162 u163 u164 u165 u166 u167 u168 u169 u170 u171 u172 u173 u174 u175 u176 u177 u178 u179 u180 u181 u182 u183 u184 u185 u186 u187 u188 u189 u190 u191 u192 u193 u194 u195 u196 u197 u198 u199 u200 u201 u202 u203 u204 u205 u206 u207 u208 u209 u210 u211 u212 u213 u214 u215 u216 u217 u218 u219 u220 u221 u222 u223 u224 u225 u226 u227 u228 u229 u230 u231 u232 u233 u234 u235 u236 u237 u238 u239 u240 u241 u242 u243 u244 u245 u246 u247 u248 u249 u250 u251 u252 u253 u254 u255 u256 u257 u258 u259 u260 u261 u262 u263 u264:Value} {ds:List Deferred} {Post:Value→World→Prop}
  (hC0:(fun W=>W.cell? ⟨ub,2,none⟩=some (.pointer (some ⟨pr,0,none⟩))∧W.cell? ⟨ob,4,none⟩=some (str s)) w) (hC1:∀ r W,Post r W→(fun W=>W.cell? ⟨ub,2,none⟩=some (.pointer (some ⟨pr,0,none⟩))∧W.cell? ⟨ob,4,none⟩=some (str s)) W) (hpt:∀ r W,Post r W→∃ ra rb,r=.tuple #[ra,rb])
  (hcall:Calls Tryz.prog 89 #[.pointer (some ⟨pr,0,none⟩),str s] w.drew (fun e w'=>∃ r,e=.returned r∧Post r w'))
  (hk:∀ (ra rb:Value) (w':World),Post (.tuple #[ra,rb]) w'→Q .normal { tmps:=#[.pointer (some ⟨ub,0,none⟩),u1,u2,.pointer (some ⟨ob,0,none⟩),u4,u5,u6,u7,u8,u9,u10,u11,u12,u13,u14,u15,u16,u17,u18,u19,ra,rb,u22,u23,u24,u25,u26,u27,u28,u29,u30,u31,u32,u33,u34,u35,u36,u37,u38,u39,u40,u41,u42,u43,u44,u45,u46,u47,u48,u49,u50,u51,u52,u53,u54,u55,u56,u57,u58,u59,u60,u61,u62,u63,u64,u65,u66,u67,u68,u69,u70,u71,u72,u73,u74,u75,u76,u77,u78,u79,u80,u81,u82,u83,u84,u85,u86,u87,u88,u89,u90,u91,u92,u93,u94,u95,u96,u97,u98,u99,u100,u101,u102,u103,u104,u105,u106,u107,u108,u109,u110,u111,u112,u113,u114,u115,u116,u117,u118,u119,u120,u121,u122,u123,u124,u125,u126,u127,u128,u129,u130,u131,u132,u133,u134,u135,u136,u137,u138,u139,u140,u141,u142,u143,u144,u145,u146,u147,u148,u149,u150,u151,u152,u153,u154,u155,u156,u157,u158,u159,u160,u161,u162,u163,u164,u165,u166,u167,u168,u169,u170,u171,u172,u173,u174,u175,u176,u177,u178,u179,u180,u181,u182,u183,u184,u185,u186,u187,u188,u189,u190,u191,u192,u193,u194,u195,u196,u197,(.tuple #[ra,rb]),.pointer (some ⟨ub,0,none⟩),.pointer (some ⟨ub,0,none⟩),.pointer (some ⟨ub,2,none⟩),.pointer (some ⟨pr,0,none⟩),.pointer (some ⟨ob,4,none⟩),str s,(.tuple #[ra,rb]),ra,rb,u208,u209,u210,u211,u212,u213,u214,u215,u216,u217,u218,u219,u220,u221,u222,u223,u224,u225,u226,u227,u228,u229,u230,u231,u232,u233,u234,u235,u236,u237,u238,u239,u240,u241,u242,u243,u244,u245,u246,u247,u248,u249,u250,u251,u252,u253,u254,u255,u256,u257,u258,u259,u260,u261,u262,u263,u264],defers:=ds } w') :
  (regOf 33 Tryz.f57).wp Tryz.prog Q { tmps:=#[.pointer (some ⟨ub,0,none⟩),u1,u2,.pointer (some ⟨ob,0,none⟩),u4,u5,u6,u7,u8,u9,u10,u11,u12,u13,u14,u15,u16,u17,u18,u19,u20,u21,u22,u23,u24,u25,u26,u27,u28,u29,u30,u31,u32,u33,u34,u35,u36,u37,u38,u39,u40,u41,u42,u43,u44,u45,u46,u47,u48,u49,u50,u51,u52,u53,u54,u55,u56,u57,u58,u59,u60,u61,u62,u63,u64,u65,u66,u67,u68,u69,u70,u71,u72,u73,u74,u75,u76,u77,u78,u79,u80,u81,u82,u83,u84,u85,u86,u87,u88,u89,u90,u91,u92,u93,u94,u95,u96,u97,u98,u99,u100,u101,u102,u103,u104,u105,u106,u107,u108,u109,u110,u111,u112,u113,u114,u115,u116,u117,u118,u119,u120,u121,u122,u123,u124,u125,u126,u127,u128,u129,u130,u131,u132,u133,u134,u135,u136,u137,u138,u139,u140,u141,u142,u143,u144,u145,u146,u147,u148,u149,u150,u151,u152,u153,u154,u155,u156,u157,u158,u159,u160,u161,u162,u163,u164,u165,u166,u167,u168,u169,u170,u171,u172,u173,u174,u175,u176,u177,u178,u179,u180,u181,u182,u183,u184,u185,u186,u187,u188,u189,u190,u191,u192,u193,u194,u195,u196,u197,u198,u199,u200,u201,u202,u203,u204,u205,u206,u207,u208,u209,u210,u211,u212,u213,u214,u215,u216,u217,u218,u219,u220,u221,u222,u223,u224,u225,u226,u227,u228,u229,u230,u231,u232,u233,u234,u235,u236,u237,u238,u239,u240,u241,u242,u243,u244,u245,u246,u247,u248,u249,u250,u251,u252,u253,u254,u255,u256,u257,u258,u259,u260,u261,u262,u263,u264],defers:=ds } w:=by
 have HM:=Lib.hid (show Tryz.prog.follows .mixedOrders=true by kernel_rfl)
 conv=>arg 2;whnf
 refine qb1 (A:=?A) (hA:=?hA) HM.out 6 (fun i=>([(.pointer (some ⟨ub,0,none⟩):Value),(.pointer (some ⟨ub,0,none⟩):Value),(.pointer (some ⟨ub,2,none⟩):Value),(.pointer (some ⟨pr,0,none⟩):Value),(.pointer (some ⟨ob,4,none⟩):Value),(str s:Value)]:List Value).getD i undef) (fun i r=>(([(fun r=>r:Value→Value),(fun r=>r:Value→Value),(fun r=>(tupAt 0 r):Value→Value),(fun r=>(tupAt 1 r):Value→Value),(fun r=>(tupAt 0 r):Value→Value),(fun r=>(tupAt 1 r):Value→Value)]:List (Value→Value)).getD (i-6) (fun r=>r)) r) (fun W=>W.cell? ⟨ub,2,none⟩=some (.pointer (some ⟨pr,0,none⟩))∧W.cell? ⟨ob,4,none⟩=some (str s)) Post (by kernel_rfl) (by kernel_rfl) (by decide) hC0 hC1 ?hs ?he
 case hA=>intro x;simp only [qam,Act.put,List.setIfInBounds_toArray,List.set_cons_zero,List.set_cons_succ,Nat.reduceAdd];rfl
 case hs =>
  refine ⟨fun x w hd hC K hK=>?_,fun x w hd hC K hK=>?_,fun x w hd hC K hK=>?_,fun x w hd hC K hK=>?_,fun x w hd hC K hK=>?_,fun x w hd hC K hK=>?_,fun x hd K hK=>?_,fun x r w hp hd K hK=>?_,fun x r w hp hd K hK=>?_,fun x r w hp hd K hK=>?_,fun x r w hp hd K hK=>?_,fun x r w hp hd K hK=>?_,trivial⟩
  ·dsimp only
   exact qag (by kernel_rfl) hK
  ·dsimp only
   have h0:x 0=.pointer (some ⟨ub,0,none⟩):=qai hd 0 (by kernel_rfl)
   exact qag (by rw [h0];kernel_rfl) hK
  ·dsimp only
   have h1:x 1=.pointer (some ⟨ub,0,none⟩):=qai hd 1 (by kernel_rfl)
   exact qag (by rw [h1];kernel_rfl) hK
  ·dsimp only
   have h2:x 2=.pointer (some ⟨ub,2,none⟩):=qai hd 2 (by kernel_rfl)
   exact qat Tryz.underlying56 rfl rfl (by rw [h2];rfl) (hC.1) hK
  ·dsimp only
   exact qag (by kernel_rfl) hK
  ·dsimp only
   have h4:x 4=.pointer (some ⟨ob,4,none⟩):=qai hd 4 (by kernel_rfl)
   exact qat Tryz.underlying9 rfl rfl (by rw [h4];rfl) (hC.2) hK
  ·dsimp only
   have h3:x 3=.pointer (some ⟨pr,0,none⟩):=qai hd 3 (by kernel_rfl)
   have h5:x 5=str s:=qai hd 5 (by kernel_rfl)
   refine qbe (by rw [h3,h5];kernel_rfl) hcall ?_
   rintro e w' ⟨r,rfl,hp⟩
   exact ⟨r,rfl,hK r w' hp⟩
  ·dsimp only
   have h6:x 6=_:=qai hd 6 (by kernel_rfl)
   obtain ⟨ra,rb,rfl⟩:=hpt r w hp
   change x 6=(.tuple #[ra,rb]) at h6
   exact qag (by rw [h6];kernel_rfl) hK
  ·dsimp only
   have h7:x 7=_:=qai hd 7 (by kernel_rfl)
   obtain ⟨ra,rb,rfl⟩:=hpt r w hp
   change x 7=(.tuple #[ra,rb]) at h7
   exact qag (by rw [h7];kernel_rfl) hK
  ·dsimp only
   have h7:x 7=_:=qai hd 7 (by kernel_rfl)
   obtain ⟨ra,rb,rfl⟩:=hpt r w hp
   change x 7=(.tuple #[ra,rb]) at h7
   exact qag (by rw [h7];kernel_rfl) hK
  ·dsimp only
   have h8:x 8=_:=qai hd 8 (by kernel_rfl)
   obtain ⟨ra,rb,rfl⟩:=hpt r w hp
   change x 8=ra at h8
   exact qag (by rw [h8];kernel_rfl) hK
  ·dsimp only
   have h9:x 9=_:=qai hd 9 (by kernel_rfl)
   obtain ⟨ra,rb,rfl⟩:=hpt r w hp
   change x 9=rb at h9
   exact qag (by rw [h9];kernel_rfl) hK
 case he =>
  intro r w3 hp
  obtain ⟨ra,rb,rfl⟩:=hpt r w3 hp
  exact hk ra rb w3 hp
theorem q5i (ob ub:Nat) (pa pr:Nat) (s t:Bs) (na nb nc:Int) (rv dv:Value) {Q:Exit→Act→World→Prop} {w:World} {u1 u2 u4 u6 u7 u8 u9 u10 u11 u12 u13 u14 u15 u16 u17 u18 u19 u20 u21 u22 u23 u24 u25 u26 u27 u28 u29 u30 u31 u32 u33 u34 u35 u36 u37 u38 u39 u40 u41 u42 u43 u44 u45 u46 u47 u48 u49 u50 u51 u52 u53 u54 u55 u56 u57 u58 u59 u60 u61 u62 u63 u64 u65 u66 u67 u68 u69 u70 u71 u72 u73 u74 u75 u76 u77 u78 u79 u80 u81 u82 u83 u84 u85 u86 u87 u88 u89 u90 u91 u92 u93 u94 u95 u96 u97 u98 u99 u100 u101 u102 u103 u104 u105 u106 u107 u108 u109 u110 u111 u112 u113 u114 u115 u116 u117 u118 u119 u120 u121 u122 u123 u124 u125 u126 u127 u128 u129 u130 u131 u132 u133 u134 u135 u136 u137 u138 u139 u140 u141 u142 u143 u144 u145 u146 u147 u148 u149 u150 u151 u152 u153 u154 u155 u156 u157 u158 u159 u160 u161 u162 u163 u164 u165 u166 u167 u168 u169 u170 u171 u172 u173 u174 u175 u176 u177 u178 u179 u180 u181 u182 u183 u184 u185 u186 u187 u188 u189 u190 u191 u192 u193 u194 u195 u196 u197 u198 u199 u200 u201 u202 u203 u204 u205 u206 u207 u208 u209 u210 u211 u212 u213 u214 u215 u216 u217 u218 u219 u220 u221 u222 u223 u224 u225 u226 u227 u228 u229 u230 u231 u232 u233 u234 u235 u236 u237 u238 u239 u240 u241 u242 u243 u244 u245 u246 u247 u248 u249 u250 u251 u252 u253 u254 u255 u256 u257 u258 u259 u260 u261 u262 u263 u264 u265 u266 u267 u268 u269 u270 u271 u272 u273 u274 u275 u276 u277 u278 u279 u280 u281 u282 u283 u284 u285 u286 u287 u288 u289 u290:Value} {ds:List Deferred} {Post:Value→World→Prop}
  (hC0:(fun W=>W.cell? ⟨ub,1,none⟩=some (.pointer (some ⟨pa,0,none⟩))∧W.cell? ⟨ob,4,none⟩=some (str s)) w) (hC1:∀ r W,Post r W→(fun W=>W.cell? ⟨ub,1,none⟩=some (.pointer (some ⟨pa,0,none⟩))∧W.cell? ⟨ob,4,none⟩=some (str s)) W) (hpt:∀ r W,Post r W→∃ ra rb,r=.tuple #[ra,rb])
  (hcall:Calls Tryz.prog 25 #[.pointer (some ⟨pa,0,none⟩),str s,rv] w.drew (fun e w'=>∃ r,e=.returned r∧Post r w'))
  (hk:∀ (ra rb:Value) (w':World),Post (.tuple #[ra,rb]) w'→Q .normal { tmps:=#[.pointer (some ⟨ub,0,none⟩),u1,u2,.pointer (some ⟨ob,0,none⟩),u4,rv,ra,rb,u8,u9,u10,u11,u12,u13,u14,u15,u16,u17,u18,u19,u20,u21,u22,u23,u24,u25,u26,u27,u28,u29,u30,u31,u32,u33,u34,u35,u36,u37,u38,u39,u40,u41,u42,u43,u44,u45,(.tuple #[ra,rb]),.pointer (some ⟨ub,0,none⟩),.pointer (some ⟨ub,0,none⟩),.pointer (some ⟨ub,1,none⟩),.pointer (some ⟨pa,0,none⟩),.pointer (some ⟨ob,4,none⟩),str s,rv,(.tuple #[ra,rb]),ra,rb,u57,u58,u59,u60,u61,u62,u63,u64,u65,u66,u67,u68,u69,u70,u71,u72,u73,u74,u75,u76,u77,u78,u79,u80,u81,u82,u83,u84,u85,u86,u87,u88,u89,u90,u91,u92,u93,u94,u95,u96,u97,u98,u99,u100,u101,u102,u103,u104,u105,u106,u107,u108,u109,u110,u111,u112,u113,u114,u115,u116,u117,u118,u119,u120,u121,u122,u123,u124,u125,u126,u127,u128,u129,u130,u131,u132,u133,u134,u135,u136,u137,u138,u139,u140,u141,u142,u143,u144,u145,u146,u147,u148,u149,u150,u151,u152,u153,u154,u155,u156,u157,u158,u159,u160,u161,u162,u163,u164,u165,u166,u167,u168,u169,u170,u171,u172,u173,u174,u175,u176,u177,u178,u179,u180,u181,u182,u183,u184,u185,u186,u187,u188,u189,u190,u191,u192,u193,u194,u195,u196,u197,u198,u199,u200,u201,u202,u203,u204,u205,u206,u207,u208,u209,u210,u211,u212,u213,u214,u215,u216,u217,u218,u219,u220,u221,u222,u223,u224,u225,u226,u227,u228,u229,u230,u231,u232,u233,u234,u235,u236,u237,u238,u239,u240,u241,u242,u243,u244,u245,u246,u247,u248,u249,u250,u251,u252,u253,u254,u255,u256,u257,u258,u259,u260,u261,u262,u263,u264,u265,u266,u267,u268,u269,u270,u271,u272,u273,u274,u275,u276,u277,u278,u279,u280,u281,u282,u283,u284,u285,u286,u287,u288,u289,u290],defers:=ds } w') :
  (regOf 10 Tryz.f23).wp Tryz.prog Q { tmps:=#[.pointer (some ⟨ub,0,none⟩),u1,u2,.pointer (some ⟨ob,0,none⟩),u4,rv,u6,u7,u8,u9,u10,u11,u12,u13,u14,u15,u16,u17,u18,u19,u20,u21,u22,u23,u24,u25,u26,u27,u28,u29,u30,u31,u32,u33,u34,u35,u36,u37,u38,u39,u40,u41,u42,u43,u44,u45,u46,u47,u48,u49,u50,u51,u52,u53,u54,u55,u56,u57,u58,u59,u60,u61,u62,u63,u64,u65,u66,u67,u68,u69,u70,u71,u72,u73,u74,u75,u76,u77,u78,u79,u80,u81,u82,u83,u84,u85,u86,u87,u88,u89,u90,u91,u92,u93,u94,u95,u96,u97,u98,u99,u100,u101,u102,u103,u104,u105,u106,u107,u108,u109,u110,u111,u112,u113,u114,u115,u116,u117,u118,u119,u120,u121,u122,u123,u124,u125,u126,u127,u128,u129,u130,u131,u132,u133,u134,u135,u136,u137,u138,u139,u140,u141,u142,u143,u144,u145,u146,u147,u148,u149,u150,u151,u152,u153,u154,u155,u156,u157,u158,u159,u160,u161,u162,u163,u164,u165,u166,u167,u168,u169,u170,u171,u172,u173,u174,u175,u176,u177,u178,u179,u180,u181,u182,u183,u184,u185,u186,u187,u188,u189,u190,u191,u192,u193,u194,u195,u196,u197,u198,u199,u200,u201,u202,u203,u204,u205,u206,u207,u208,u209,u210,u211,u212,u213,u214,u215,u216,u217,u218,u219,u220,u221,u222,u223,u224,u225,u226,u227,u228,u229,u230,u231,u232,u233,u234,u235,u236,u237,u238,u239,u240,u241,u242,u243,u244,u245,u246,u247,u248,u249,u250,u251,u252,u253,u254,u255,u256,u257,u258,u259,u260,u261,u262,u263,u264,u265,u266,u267,u268,u269,u270,u271,u272,u273,u274,u275,u276,u277,u278,u279,u280,u281,u282,u283,u284,u285,u286,u287,u288,u289,u290],defers:=ds } w:=by
 have HM:=Lib.hid (show Tryz.prog.follows .mixedOrders=true by kernel_rfl)
 conv=>arg 2;whnf
 refine qb1 (A:=?A) (hA:=?hA) HM.out 7 (fun i=>([(.pointer (some ⟨ub,0,none⟩):Value),(.pointer (some ⟨ub,0,none⟩):Value),(.pointer (some ⟨ub,1,none⟩):Value),(.pointer (some ⟨pa,0,none⟩):Value),(.pointer (some ⟨ob,4,none⟩):Value),(str s:Value),(rv:Value)]:List Value).getD i undef) (fun i r=>(([(fun r=>r:Value→Value),(fun r=>r:Value→Value),(fun r=>(tupAt 0 r):Value→Value),(fun r=>(tupAt 1 r):Value→Value),(fun r=>(tupAt 0 r):Value→Value),(fun r=>(tupAt 1 r):Value→Value)]:List (Value→Value)).getD (i-7) (fun r=>r)) r) (fun W=>W.cell? ⟨ub,1,none⟩=some (.pointer (some ⟨pa,0,none⟩))∧W.cell? ⟨ob,4,none⟩=some (str s)) Post (by kernel_rfl) (by kernel_rfl) (by decide) hC0 hC1 ?hs ?he
 case hA=>intro x;simp only [qam,Act.put,List.setIfInBounds_toArray,List.set_cons_zero,List.set_cons_succ,Nat.reduceAdd];rfl
 case hs =>
  refine ⟨fun x w hd hC K hK=>?_,fun x w hd hC K hK=>?_,fun x w hd hC K hK=>?_,fun x w hd hC K hK=>?_,fun x w hd hC K hK=>?_,fun x w hd hC K hK=>?_,fun x w hd hC K hK=>?_,fun x hd K hK=>?_,fun x r w hp hd K hK=>?_,fun x r w hp hd K hK=>?_,fun x r w hp hd K hK=>?_,fun x r w hp hd K hK=>?_,fun x r w hp hd K hK=>?_,trivial⟩
  ·dsimp only
   exact qag (by kernel_rfl) hK
  ·dsimp only
   have h0:x 0=.pointer (some ⟨ub,0,none⟩):=qai hd 0 (by kernel_rfl)
   exact qag (by rw [h0];kernel_rfl) hK
  ·dsimp only
   have h1:x 1=.pointer (some ⟨ub,0,none⟩):=qai hd 1 (by kernel_rfl)
   exact qag (by rw [h1];kernel_rfl) hK
  ·dsimp only
   have h2:x 2=.pointer (some ⟨ub,1,none⟩):=qai hd 2 (by kernel_rfl)
   exact qat Tryz.underlying32 rfl rfl (by rw [h2];rfl) (hC.1) hK
  ·dsimp only
   exact qag (by kernel_rfl) hK
  ·dsimp only
   have h4:x 4=.pointer (some ⟨ob,4,none⟩):=qai hd 4 (by kernel_rfl)
   exact qat Tryz.underlying9 rfl rfl (by rw [h4];rfl) (hC.2) hK
  ·dsimp only
   exact qag (by kernel_rfl) hK
  ·dsimp only
   have h3:x 3=.pointer (some ⟨pa,0,none⟩):=qai hd 3 (by kernel_rfl)
   have h5:x 5=str s:=qai hd 5 (by kernel_rfl)
   have h6:x 6=rv:=qai hd 6 (by kernel_rfl)
   refine qbe (by rw [h3,h5,h6];kernel_rfl) hcall ?_
   rintro e w' ⟨r,rfl,hp⟩
   exact ⟨r,rfl,hK r w' hp⟩
  ·dsimp only
   have h7:x 7=_:=qai hd 7 (by kernel_rfl)
   obtain ⟨ra,rb,rfl⟩:=hpt r w hp
   change x 7=(.tuple #[ra,rb]) at h7
   exact qag (by rw [h7];kernel_rfl) hK
  ·dsimp only
   have h8:x 8=_:=qai hd 8 (by kernel_rfl)
   obtain ⟨ra,rb,rfl⟩:=hpt r w hp
   change x 8=(.tuple #[ra,rb]) at h8
   exact qag (by rw [h8];kernel_rfl) hK
  ·dsimp only
   have h8:x 8=_:=qai hd 8 (by kernel_rfl)
   obtain ⟨ra,rb,rfl⟩:=hpt r w hp
   change x 8=(.tuple #[ra,rb]) at h8
   exact qag (by rw [h8];kernel_rfl) hK
  ·dsimp only
   have h9:x 9=_:=qai hd 9 (by kernel_rfl)
   obtain ⟨ra,rb,rfl⟩:=hpt r w hp
   change x 9=ra at h9
   exact qag (by rw [h9];kernel_rfl) hK
  ·dsimp only
   have h10:x 10=_:=qai hd 10 (by kernel_rfl)
   obtain ⟨ra,rb,rfl⟩:=hpt r w hp
   change x 10=rb at h10
   exact qag (by rw [h10];kernel_rfl) hK
 case he =>
  intro r w3 hp
  obtain ⟨ra,rb,rfl⟩:=hpt r w3 hp
  exact hk ra rb w3 hp
theorem qxl (ob ub:Nat) (pa pr:Nat) (s t:Bs) (na nb nc:Int) (rv dv:Value) {Q:Exit→Act→World→Prop} {w:World} {u1 u2 u4 u5 u6 u7 u8 u9 u10 u11 u12 u13 u14 u15 u16 u17 u18 u19 u20 u21 u22 u23 u24 u25 u26 u27 u28 u29 u30 u31 u32 u33 u34 u35 u36 u37 u38 u39 u40 u41 u42 u43 u44 u45 u46 u47 u48 u49 u50 u51 u52 u53 u54 u55 u56 u57 u58 u59 u60 u61 u62 u63 u64 u65 u66 u67 u68 u69 u70 u71 u72 u73 u74 u75 u76 u77 u78 u79 u80 u81 u82 u83 u84 u85 u86 u87 u88 u89 u90 u91 u92 u93 u94 u95 u96 u97 u98 u99 u100 u101 u102 u103 u104 u105 u106 u107 u108 u109 u110 u111 u112 u113 u114 u115 u116 u117 u118 u119 u120 u121 u122 u123 u124 u125 u126 u127 u128 u129 u130 u131 u132 u133 u134 u135 u136 u137 u138 u139 u140 u141 u142 u143 u144 u145 u146 u147 u148 u149 u150 u151 u152 u153 u154 u155 u156 u157 u158 u159 u160 u161 u162 u163 u164 u165 u166 u167 u168 u169 u170 u171 u172 u173 u174 u175 u176 u177 u178 u179 u180 u181 u182 u183 u184 u185 u186 u187 u188 u189 u190 u191 u192 u193 u194 u195 u196 u197 u198 u199 u200 u201 u202 u203 u204 u205 u206 u207 u208 u209 u210 u211 u212 u213 u214 u215 u216 u217 u218 u219 u220 u221 u222 u223 u224 u225 u226 u227 u228 u229 u230 u231 u232 u233 u234 u235 u236 u237 u238 u239 u240 u241 u242 u243 u244 u245 u246 u247 u248 u249 u250 u251 u252 u253 u254 u255 u256 u257 u258 u259 u260 u261 u262 u263 u264 u265 u266 u267 u268 u269 u270 u271 u272 u273 u274 u275 u276 u277 u278 u279 u280 u281 u282 u283 u284 u285 u286 u287 u288 u289 u290:Value} {ds:List Deferred} {Post:Value→World→Prop}
  (hC0:(fun W=>W.cell? ⟨ub,2,none⟩=some (.pointer (some ⟨pr,0,none⟩))∧W.cell? ⟨ob,4,none⟩=some (str s)∧W.cell? ⟨ob,6,none⟩=some (dv)) w) (hC1:∀ r W,Post r W→(fun W=>W.cell? ⟨ub,2,none⟩=some (.pointer (some ⟨pr,0,none⟩))∧W.cell? ⟨ob,4,none⟩=some (str s)∧W.cell? ⟨ob,6,none⟩=some (dv)) W) (hpt:∀ r W,Post r W→∃ ra rb,r=.tuple #[ra,rb])
  (hcall:Calls Tryz.prog 60 #[.pointer (some ⟨pr,0,none⟩),str s,dv] w.drew (fun e w'=>∃ r,e=.returned r∧Post r w'))
  (hk:∀ (ra rb:Value) (w':World),Post (.tuple #[ra,rb]) w'→Q .normal { tmps:=#[.pointer (some ⟨ub,0,none⟩),u1,u2,.pointer (some ⟨ob,0,none⟩),u4,u5,u6,u7,u8,ra,rb,u11,u12,u13,u14,u15,u16,u17,u18,u19,u20,u21,u22,u23,u24,u25,u26,u27,u28,u29,u30,u31,u32,u33,u34,u35,u36,u37,u38,u39,u40,u41,u42,u43,u44,u45,u46,u47,u48,u49,u50,u51,u52,u53,u54,u55,u56,u57,u58,u59,u60,(.tuple #[ra,rb]),.pointer (some ⟨ub,0,none⟩),.pointer (some ⟨ub,0,none⟩),.pointer (some ⟨ub,2,none⟩),.pointer (some ⟨pr,0,none⟩),.pointer (some ⟨ob,4,none⟩),str s,.pointer (some ⟨ob,6,none⟩),dv,(.tuple #[ra,rb]),ra,rb,u73,u74,u75,u76,u77,u78,u79,u80,u81,u82,u83,u84,u85,u86,u87,u88,u89,u90,u91,u92,u93,u94,u95,u96,u97,u98,u99,u100,u101,u102,u103,u104,u105,u106,u107,u108,u109,u110,u111,u112,u113,u114,u115,u116,u117,u118,u119,u120,u121,u122,u123,u124,u125,u126,u127,u128,u129,u130,u131,u132,u133,u134,u135,u136,u137,u138,u139,u140,u141,u142,u143,u144,u145,u146,u147,u148,u149,u150,u151,u152,u153,u154,u155,u156,u157,u158,u159,u160,u161,u162,u163,u164,u165,u166,u167,u168,u169,u170,u171,u172,u173,u174,u175,u176,u177,u178,u179,u180,u181,u182,u183,u184,u185,u186,u187,u188,u189,u190,u191,u192,u193,u194,u195,u196,u197,u198,u199,u200,u201,u202,u203,u204,u205,u206,u207,u208,u209,u210,u211,u212,u213,u214,u215,u216,u217,u218,u219,u220,u221,u222,u223,u224,u225,u226,u227,u228,u229,u230,u231,u232,u233,u234,u235,u236,u237,u238,u239,u240,u241,u242,u243,u244,u245,u246,u247,u248,u249,u250,u251,u252,u253,u254,u255,u256,u257,u258,u259,u260,u261,u262,u263,u264,u265,u266,u267,u268,u269,u270,u271,u272,u273,u274,u275,u276,u277,u278,u279,u280,u281,u282,u283,u284,u285,u286,u287,u288,u289,u290],defers:=ds } w') :
  (regOf 12 Tryz.f23).wp Tryz.prog Q { tmps:=#[.pointer (some ⟨ub,0,none⟩),u1,u2,.pointer (some ⟨ob,0,none⟩),u4,u5,u6,u7,u8,u9,u10,u11,u12,u13,u14,u15,u16,u17,u18,u19,u20,u21,u22,u23,u24,u25,u26,u27,u28,u29,u30,u31,u32,u33,u34,u35,u36,u37,u38,u39,u40,u41,u42,u43,u44,u45,u46,u47,u48,u49,u50,u51,u52,u53,u54,u55,u56,u57,u58,u59,u60,u61,u62,u63,u64,u65,u66,u67,u68,u69,u70,u71,u72,u73,u74,u75,u76,u77,u78,u79,u80,u81,u82,u83,u84,u85,u86,u87,u88,u89,u90,u91,u92,u93,u94,u95,u96,u97,u98,u99,u100,u101,u102,u103,u104,u105,u106,u107,u108,u109,u110,u111,u112,u113,u114,u115,u116,u117,u118,u119,u120,u121,u122,u123,u124,u125,u126,u127,u128,u129,u130,u131,u132,u133,u134,u135,u136,u137,u138,u139,u140,u141,u142,u143,u144,u145,u146,u147,u148,u149,u150,u151,u152,u153,u154,u155,u156,u157,u158,u159,u160,u161,u162,u163,u164,u165,u166,u167,u168,u169,u170,u171,u172,u173,u174,u175,u176,u177,u178,u179,u180,u181,u182,u183,u184,u185,u186,u187,u188,u189,u190,u191,u192,u193,u194,u195,u196,u197,u198,u199,u200,u201,u202,u203,u204,u205,u206,u207,u208,u209,u210,u211,u212,u213,u214,u215,u216,u217,u218,u219,u220,u221,u222,u223,u224,u225,u226,u227,u228,u229,u230,u231,u232,u233,u234,u235,u236,u237,u238,u239,u240,u241,u242,u243,u244,u245,u246,u247,u248,u249,u250,u251,u252,u253,u254,u255,u256,u257,u258,u259,u260,u261,u262,u263,u264,u265,u266,u267,u268,u269,u270,u271,u272,u273,u274,u275,u276,u277,u278,u279,u280,u281,u282,u283,u284,u285,u286,u287,u288,u289,u290],defers:=ds } w:=by
 have HM:=Lib.hid (show Tryz.prog.follows .mixedOrders=true by kernel_rfl)
 conv=>arg 2;whnf
 refine qb1 (A:=?A) (hA:=?hA) HM.out 8 (fun i=>([(.pointer (some ⟨ub,0,none⟩):Value),(.pointer (some ⟨ub,0,none⟩):Value),(.pointer (some ⟨ub,2,none⟩):Value),(.pointer (some ⟨pr,0,none⟩):Value),(.pointer (some ⟨ob,4,none⟩):Value),(str s:Value),(.pointer (some ⟨ob,6,none⟩):Value),(dv:Value)]:List Value).getD i undef) (fun i r=>(([(fun r=>r:Value→Value),(fun r=>r:Value→Value),(fun r=>(tupAt 0 r):Value→Value),(fun r=>(tupAt 1 r):Value→Value),(fun r=>(tupAt 0 r):Value→Value),(fun r=>(tupAt 1 r):Value→Value)]:List (Value→Value)).getD (i-8) (fun r=>r)) r) (fun W=>W.cell? ⟨ub,2,none⟩=some (.pointer (some ⟨pr,0,none⟩))∧W.cell? ⟨ob,4,none⟩=some (str s)∧W.cell? ⟨ob,6,none⟩=some (dv)) Post (by kernel_rfl) (by kernel_rfl) (by decide) hC0 hC1 ?hs ?he
 case hA=>intro x;simp only [qam,Act.put,List.setIfInBounds_toArray,List.set_cons_zero,List.set_cons_succ,Nat.reduceAdd];rfl
 case hs =>
  refine ⟨fun x w hd hC K hK=>?_,fun x w hd hC K hK=>?_,fun x w hd hC K hK=>?_,fun x w hd hC K hK=>?_,fun x w hd hC K hK=>?_,fun x w hd hC K hK=>?_,fun x w hd hC K hK=>?_,fun x w hd hC K hK=>?_,fun x hd K hK=>?_,fun x r w hp hd K hK=>?_,fun x r w hp hd K hK=>?_,fun x r w hp hd K hK=>?_,fun x r w hp hd K hK=>?_,fun x r w hp hd K hK=>?_,trivial⟩
  ·dsimp only
   exact qag (by kernel_rfl) hK
  ·dsimp only
   have h0:x 0=.pointer (some ⟨ub,0,none⟩):=qai hd 0 (by kernel_rfl)
   exact qag (by rw [h0];kernel_rfl) hK
  ·dsimp only
   have h1:x 1=.pointer (some ⟨ub,0,none⟩):=qai hd 1 (by kernel_rfl)
   exact qag (by rw [h1];kernel_rfl) hK
  ·dsimp only
   have h2:x 2=.pointer (some ⟨ub,2,none⟩):=qai hd 2 (by kernel_rfl)
   exact qat Tryz.underlying56 rfl rfl (by rw [h2];rfl) (hC.1) hK
  ·dsimp only
   exact qag (by kernel_rfl) hK
  ·dsimp only
   have h4:x 4=.pointer (some ⟨ob,4,none⟩):=qai hd 4 (by kernel_rfl)
   exact qat Tryz.underlying9 rfl rfl (by rw [h4];rfl) (hC.2.1) hK
  ·dsimp only
   exact qag (by kernel_rfl) hK
  ·dsimp only
   have h6:x 6=.pointer (some ⟨ob,6,none⟩):=qai hd 6 (by kernel_rfl)
   exact qat Tryz.underlying38 rfl rfl (by rw [h6];rfl) (hC.2.2) hK
  ·dsimp only
   have h3:x 3=.pointer (some ⟨pr,0,none⟩):=qai hd 3 (by kernel_rfl)
   have h5:x 5=str s:=qai hd 5 (by kernel_rfl)
   have h7:x 7=dv:=qai hd 7 (by kernel_rfl)
   refine qbe (by rw [h3,h5,h7];kernel_rfl) hcall ?_
   rintro e w' ⟨r,rfl,hp⟩
   exact ⟨r,rfl,hK r w' hp⟩
  ·dsimp only
   have h8:x 8=_:=qai hd 8 (by kernel_rfl)
   obtain ⟨ra,rb,rfl⟩:=hpt r w hp
   change x 8=(.tuple #[ra,rb]) at h8
   exact qag (by rw [h8];kernel_rfl) hK
  ·dsimp only
   have h9:x 9=_:=qai hd 9 (by kernel_rfl)
   obtain ⟨ra,rb,rfl⟩:=hpt r w hp
   change x 9=(.tuple #[ra,rb]) at h9
   exact qag (by rw [h9];kernel_rfl) hK
  ·dsimp only
   have h9:x 9=_:=qai hd 9 (by kernel_rfl)
   obtain ⟨ra,rb,rfl⟩:=hpt r w hp
   change x 9=(.tuple #[ra,rb]) at h9
   exact qag (by rw [h9];kernel_rfl) hK
  ·dsimp only
   have h10:x 10=_:=qai hd 10 (by kernel_rfl)
   obtain ⟨ra,rb,rfl⟩:=hpt r w hp
   change x 10=ra at h10
   exact qag (by rw [h10];kernel_rfl) hK
  ·dsimp only
   have h11:x 11=_:=qai hd 11 (by kernel_rfl)
   obtain ⟨ra,rb,rfl⟩:=hpt r w hp
   change x 11=rb at h11
   exact qag (by rw [h11];kernel_rfl) hK
 case he =>
  intro r w3 hp
  obtain ⟨ra,rb,rfl⟩:=hpt r w3 hp
  exact hk ra rb w3 hp
theorem q5v (F1 Z:HF) (A:World) (ub ob:Nat) (U:WorldL) (o:OpL) (φ:Value→HF→Prop) {Q:Exit→Act→World→Prop} {w:World} {u1 u2 u4 u5 u6 u7 u8 u9 u10 u11 u12 u13 u14 u15 u16 u17 u18 u19 u20 u21 u22 u23 u24 u25 u26 u27 u28 u29 u30 u31 u32 u33 u34 u35 u36 u37 u38 u39 u40 u41 u42 u43 u44 u45 u46 u47 u48 u49 u50 u51 u52 u53 u54 u55 u56 u57 u58 u59 u60 u61 u62 u63 u64 u65 u66 u67 u68 u69 u70 u71 u72 u73 u74 u75 u76 u77 u78 u79 u80 u81 u82 u83 u84 u85 u86 u87 u88 u89 u90 u91 u92 u93 u94 u95 u96 u97 u98 u99 u100 u101 u102 u103 u104 u105 u106 u107 u108 u109 u110 u111 u112 u113 u114 u115 u116 u117 u118 u119 u120 u121 u122 u123 u124 u125 u126 u127 u128 u129 u130 u131 u132 u133 u134 u135 u136 u137 u138 u139 u140 u141 u142 u143 u144 u145 u146 u147 u148 u149 u150 u151 u152 u153 u154 u155 u156 u157 u158 u159 u160 u161 u162 u163 u164 u165 u166 u167 u168 u169 u170 u171 u172 u173 u174 u175 u176 u177 u178 u179 u180 u181 u182 u183 u184 u185 u186 u187 u188 u189 u190 u191 u192 u193 u194 u195 u196 u197 u198 u199 u200 u201 u202 u203 u204 u205 u206 u207 u208 u209 u210 u211 u212 u213 u214 u215 u216 u217 u218 u219 u220 u221 u222 u223 u224 u225 u226 u227 u228 u229 u230 u231 u232 u233 u234 u235 u236 u237 u238 u239 u240 u241 u242 u243 u244 u245 u246 u247 u248 u249 u250 u251 u252 u253 u254 u255 u256 u257 u258 u259 u260 u261 u262 u263 u264 u265 u266 u267 u268 u269 u270 u271 u272 u273 u274 u275 u276 u277 u278 u279 u280 u281 u282 u283 u284 u285 u286 u287 u288 u289 u290:Value} {ds:List Deferred} (hT:Turns F1 ((ub,Is (qao U))::(ob,Is (oO o))::Z) A w) (hcall:∀ W,Turns F1 ((ub,Is (qao U))::(ob,Is (oO o))::Z) A W→Calls Tryz.prog 61 #[U.most,o.dv] W (fun e W'=>∃ v,e=.returned v∧∃ G,φ v G∧Turns F1 ((ub,Is (qao U))::(ob,Is (oO o))::G) A W'))
  (hone:∀ v G W,φ v G→Turns F1 ((ub,Is (qao U))::(ob,Is (oO o))::G) A W→v.oneCell'=true∧v.cells=#[v])
  (hk:∀ (y77 y78 y79 y80 y81 y82 y83 y84 y85 y86:Value) (w':World),(∃ G,φ y84 G∧Turns F1 ((ub,Is (qao { U with most:=y84 }))::(ob,Is (oO o))::G) A w')→Q .normal { tmps:=#[.pointer (some ⟨ub,0,none⟩),u1,u2,.pointer (some ⟨ob,0,none⟩),u4,u5,u6,u7,u8,u9,u10,u11,u12,u13,u14,u15,u16,u17,u18,u19,u20,u21,u22,u23,u24,u25,u26,u27,u28,u29,u30,u31,u32,u33,u34,u35,u36,u37,u38,u39,u40,u41,u42,u43,u44,u45,u46,u47,u48,u49,u50,u51,u52,u53,u54,u55,u56,u57,u58,u59,u60,u61,u62,u63,u64,u65,u66,u67,u68,u69,u70,u71,u72,u73,u74,u75,u76,y77,y78,y79,y80,y81,y82,y83,y84,y85,y86,u87,u88,u89,u90,u91,u92,u93,u94,u95,u96,u97,u98,u99,u100,u101,u102,u103,u104,u105,u106,u107,u108,u109,u110,u111,u112,u113,u114,u115,u116,u117,u118,u119,u120,u121,u122,u123,u124,u125,u126,u127,u128,u129,u130,u131,u132,u133,u134,u135,u136,u137,u138,u139,u140,u141,u142,u143,u144,u145,u146,u147,u148,u149,u150,u151,u152,u153,u154,u155,u156,u157,u158,u159,u160,u161,u162,u163,u164,u165,u166,u167,u168,u169,u170,u171,u172,u173,u174,u175,u176,u177,u178,u179,u180,u181,u182,u183,u184,u185,u186,u187,u188,u189,u190,u191,u192,u193,u194,u195,u196,u197,u198,u199,u200,u201,u202,u203,u204,u205,u206,u207,u208,u209,u210,u211,u212,u213,u214,u215,u216,u217,u218,u219,u220,u221,u222,u223,u224,u225,u226,u227,u228,u229,u230,u231,u232,u233,u234,u235,u236,u237,u238,u239,u240,u241,u242,u243,u244,u245,u246,u247,u248,u249,u250,u251,u252,u253,u254,u255,u256,u257,u258,u259,u260,u261,u262,u263,u264,u265,u266,u267,u268,u269,u270,u271,u272,u273,u274,u275,u276,u277,u278,u279,u280,u281,u282,u283,u284,u285,u286,u287,u288,u289,u290],defers:=ds } w') :
  (regOf 15 Tryz.f23).wp Tryz.prog Q { tmps:=#[.pointer (some ⟨ub,0,none⟩),u1,u2,.pointer (some ⟨ob,0,none⟩),u4,u5,u6,u7,u8,u9,u10,u11,u12,u13,u14,u15,u16,u17,u18,u19,u20,u21,u22,u23,u24,u25,u26,u27,u28,u29,u30,u31,u32,u33,u34,u35,u36,u37,u38,u39,u40,u41,u42,u43,u44,u45,u46,u47,u48,u49,u50,u51,u52,u53,u54,u55,u56,u57,u58,u59,u60,u61,u62,u63,u64,u65,u66,u67,u68,u69,u70,u71,u72,u73,u74,u75,u76,u77,u78,u79,u80,u81,u82,u83,u84,u85,u86,u87,u88,u89,u90,u91,u92,u93,u94,u95,u96,u97,u98,u99,u100,u101,u102,u103,u104,u105,u106,u107,u108,u109,u110,u111,u112,u113,u114,u115,u116,u117,u118,u119,u120,u121,u122,u123,u124,u125,u126,u127,u128,u129,u130,u131,u132,u133,u134,u135,u136,u137,u138,u139,u140,u141,u142,u143,u144,u145,u146,u147,u148,u149,u150,u151,u152,u153,u154,u155,u156,u157,u158,u159,u160,u161,u162,u163,u164,u165,u166,u167,u168,u169,u170,u171,u172,u173,u174,u175,u176,u177,u178,u179,u180,u181,u182,u183,u184,u185,u186,u187,u188,u189,u190,u191,u192,u193,u194,u195,u196,u197,u198,u199,u200,u201,u202,u203,u204,u205,u206,u207,u208,u209,u210,u211,u212,u213,u214,u215,u216,u217,u218,u219,u220,u221,u222,u223,u224,u225,u226,u227,u228,u229,u230,u231,u232,u233,u234,u235,u236,u237,u238,u239,u240,u241,u242,u243,u244,u245,u246,u247,u248,u249,u250,u251,u252,u253,u254,u255,u256,u257,u258,u259,u260,u261,u262,u263,u264,u265,u266,u267,u268,u269,u270,u271,u272,u273,u274,u275,u276,u277,u278,u279,u280,u281,u282,u283,u284,u285,u286,u287,u288,u289,u290],defers:=ds } w:=by
 have HM:=Lib.hid (show Tryz.prog.follows .mixedOrders=true by kernel_rfl)
 conv=>arg 2;whnf
 refine qbu (A:=?A) (hA:=?hA) HM.out (phiL [fun v=>v=.pointer (some ⟨ub,0,none⟩),fun v=>v=.pointer (some ⟨ub,0,none⟩),fun v=>v=.pointer (some ⟨ub,0,none⟩),fun v=>v=.pointer (some ⟨ub,5,none⟩),fun v=>v=U.most,fun v=>v=.pointer (some ⟨ob,6,none⟩),fun v=>v=o.dv,fun _=>True,fun v=>v=.pointer (some ⟨ub,0,none⟩),fun v=>v=.pointer (some ⟨ub,5,none⟩),fun _=>True])
  (fun vs1 W=>match vs1 with
  | []=>Turns F1 ((ub,Is (qao U))::(ob,Is (oO o))::Z) A W
  | [v]=>∃ G,φ v G∧Turns F1 ((ub,Is (qao U))::(ob,Is (oO o))::G) A W
  | [v,_]=>∃ G,φ v G∧Turns F1 ((ub,Is (qao { U with most:=v }))::(ob,Is (oO o))::G) A W
  | _=>False)
  (fun W=>W.cell? ⟨ub,5,none⟩=some U.most∧W.cell? ⟨ob,6,none⟩=some o.dv) [7,10] ?hC (by kernel_rfl) (by kernel_rfl) (by kernel_rfl) (by decide) (by decide) ?h0 ?hs ?he
 case hA=>intro x;simp only [qam,Act.put,List.setIfInBounds_toArray,List.set_cons_zero,List.set_cons_succ,Nat.reduceAdd];rfl
 case hs =>
  refine ⟨qab rfl rfl (fun x wq hd hC K hK hKw=>?_),qab rfl rfl (fun x wq hd hC K hK hKw=>?_),qab rfl rfl (fun x wq hd hC K hK hKw=>?_),qab rfl rfl (fun x wq hd hC K hK hKw=>?_),qab rfl rfl (fun x wq hd hC K hK hKw=>?_),qab rfl rfl (fun x wq hd hC K hK hKw=>?_),qab rfl rfl (fun x wq hd hC K hK hKw=>?_),qap 0 rfl rfl (fun x wq hd hS K hK=>?_),qab rfl rfl (fun x wq hd hC K hK hKw=>?_),qab rfl rfl (fun x wq hd hC K hK hKw=>?_),qap 1 rfl rfl (fun x wq hd hS K hK=>?_),trivial⟩
  ·exact qag (by kernel_rfl) (hK _ rfl)
  ·exact qag (by kernel_rfl) (hK _ rfl)
  ·have h1:x 1=.pointer (some ⟨ub,0,none⟩):=qae hd 1 (by kernel_rfl)
   exact qag (by rw [h1];kernel_rfl) (hK _ rfl)
  ·have h2:x 2=.pointer (some ⟨ub,0,none⟩):=qae hd 2 (by kernel_rfl)
   exact qag (by rw [h2];kernel_rfl) (hK _ rfl)
  ·have h3:x 3=.pointer (some ⟨ub,5,none⟩):=qae hd 3 (by kernel_rfl)
   exact qat Tryz.underlying61 rfl rfl (by rw [h3];rfl) (hC.1) (hK _ rfl)
  ·exact qag (by kernel_rfl) (hK _ rfl)
  ·have h5:x 5=.pointer (some ⟨ob,6,none⟩):=qae hd 5 (by kernel_rfl)
   exact qat Tryz.underlying38 rfl rfl (by rw [h5];rfl) (hC.2) (hK _ rfl)
  ·have h4:x 4=U.most:=qae hd 4 (by kernel_rfl)
   have h6:x 6=o.dv:=qae hd 6 (by kernel_rfl)
   refine qbe (by rw [h4,h6];kernel_rfl) (hcall wq hS) ?_
   rintro e w' ⟨v,rfl,G,hp,hT'⟩
   exact ⟨v,rfl,hK v w' trivial ⟨G,hp,hT'⟩⟩
  ·have h0:x 0=.pointer (some ⟨ub,0,none⟩):=qae hd 0 (by kernel_rfl)
   exact qag (by rw [h0];kernel_rfl) (hK _ rfl)
  ·have h8:x 8=.pointer (some ⟨ub,0,none⟩):=qae hd 8 (by kernel_rfl)
   exact qag (by rw [h8];kernel_rfl) (hK _ rfl)
  ·have h9:x 9=.pointer (some ⟨ub,5,none⟩):=qae hd 9 (by kernel_rfl)
   obtain ⟨G,hp,hT'⟩:=hS
   obtain ⟨ho1,ho2⟩:=hone _ _ _ hp hT'
   refine qa0 61 (.tmp 86) (.tmp 84) rfl ub 5 (qar U) 63 (x 7) hT' (by rw [h9];rfl) rfl (by simp [qar]) (by kernel_rfl) ho1 ho2 (fun w' hT2=>hK _ w' trivial ⟨G,hp,hT2⟩)
 case hC =>
  intro vs1 W hlt hS
  match vs1,hS,hlt with
  | [],hT,_=>exact ⟨qac hT.sat.headIs 5 rfl,qac hT.sat.tail.headIs 6 rfl⟩
  | [_],⟨_,_,hT⟩,_=>exact ⟨qac hT.sat.headIs 5 rfl,qac hT.sat.tail.headIs 6 rfl⟩
  | [_,_],_,hlt=>exact absurd hlt (Nat.lt_irrefl _)
 case h0 =>
  exact hT.drew
 case he =>
  intro x w3 hφ hS
  exact hk (x 0) (x 1) (x 2) (x 3) (x 4) (x 5) (x 6) (x 7) (x 8) (x 9) w3 hS
theorem qj2 (vs:List RVer) (v:RVer) (p:Bs):qbg (vs++[v]) p=qbg vs p++(if v.path=p then [v] else []):=by
 unfold qbg
 rw [List.filter_append]
 congr 1
 by_cases h:v.path=p<;>simp [h]
def entOf (vs:List RVer) (p:Bs):EntL:=⟨p,((qbg vs p).getLast?.map (·.num)).getD 0,((qbg vs p).getLast?.map (fun v=>(v.cont.length:Int))).getD 0,(qbg vs p).length⟩
structure EntInv (pre:Bs) (vs:List RVer) (es:List EntL):Prop where
 asc:es.Pairwise (fun a b=>bsLt a.p b.p=true)
 ent:∀ e∈es,pre.isPrefixOf e.p=true∧(∃ v∈vs,v.path=e.p)∧e=entOf vs e.p
 all:∀ v∈vs,pre.isPrefixOf v.path=true→∃ e∈es,e.p=v.path
theorem qj0 {vs:List RVer} {v:RVer} {p:Bs} (h:¬ v.path=p):entOf (vs++[v]) p=entOf vs p:=by
 unfold entOf;rw [qj2,if_neg h,List.append_nil]
theorem qk5 {vs:List RVer} {v:RVer}:entOf (vs++[v]) v.path=⟨v.path,v.num,v.cont.length,(qbg vs v.path).length+1⟩:=by
 unfold entOf;rw [qj2,if_pos rfl];simp
theorem EntInv.step {pre:Bs} {vs:List RVer} {es:List EntL} (h:EntInv pre vs es) {v:RVer} (hs:∀ u∈vs,bsLt v.path u.path=false):EntInv pre (vs++[v]) (qdx pre es v):=by
 unfold qdx
 by_cases hp:pre.isPrefixOf v.path=true
 ·rw [if_pos hp]
  have hle:∀ e∈es,bsLt v.path e.p=false:=fun e he=>by
   obtain ⟨u,hu,e1⟩:=(h.ent e he).2.1
   rw [← e1];exact hs u hu
  rcases List.eq_nil_or_concat es with rfl | ⟨es0,e,rfl⟩
  ·have hno:qbg vs v.path=[]:=by
    unfold qbg
    rw [List.filter_eq_nil_iff]
    intro u hu
    simp only [decide_eq_true_eq]
    intro e1
    obtain ⟨x,hx,-⟩:=h.all u hu (by rw [e1];exact hp)
    cases hx
   have e1:qhz (qc6 [] v.path) v.num v.cont.length=[⟨v.path,v.num,v.cont.length,0+1⟩]:=rfl
   rw [e1]
   refine ⟨List.pairwise_singleton _ _,fun e he=>?_,fun u hu hpu=>?_⟩
   ·obtain rfl:=List.mem_singleton.1 he
    refine ⟨hp,⟨v,by simp,rfl⟩,?_⟩
    simp only
    rw [qk5,hno];rfl
   ·rcases List.mem_append.1 hu with hu | hu
    ·obtain ⟨x,hx,-⟩:=h.all u hu hpu;cases hx
    ·obtain rfl:=List.mem_singleton.1 hu
     exact ⟨_,List.mem_singleton.2 rfl,rfl⟩
  ·rw [List.concat_eq_append] at h hle ⊢
   have hpw:=List.pairwise_append.1 h.asc
   by_cases hep:e.p=v.path
   ·have e1:qc6 (es0++[e]) v.path=es0++[e]:=by unfold qc6;rw [if_pos (by simp [hep])]
    rw [e1,qhs]
    have hn:=(h.ent e (by simp)).2.2
    have hen:e.n=((qbg vs v.path).length:Nat):=by rw [hn,← hep];rfl
    have hlt:∀ x∈es0,bsLt x.p v.path=true:=fun x hx=>by have:=hpw.2.2 x hx e (by simp);rw [hep] at this;exact this
    refine ⟨List.pairwise_append.2 ⟨hpw.1,List.pairwise_singleton _ _,fun x hx y hy=>?_⟩,fun x hx=>?_,fun u hu hpu=>?_⟩
    ·obtain rfl:=List.mem_singleton.1 hy
     simp only;rw [hep];exact hlt x hx
    ·rcases List.mem_append.1 hx with hx | hx
     ·obtain ⟨a1,⟨u,hu,a2⟩,a3⟩:=h.ent x (by simp [hx])
      refine ⟨a1,⟨u,by simp [hu],a2⟩,?_⟩
      rw [qj0]
      ·exact a3
      ·intro e2
       have:=hlt x hx
       rw [e2,qc0] at this;cases this
     ·obtain rfl:=List.mem_singleton.1 hx
      refine ⟨by simp only;rw [hep];exact hp,⟨v,by simp,hep.symm⟩,?_⟩
      simp only
      rw [hep,qk5,hen]
    ·rcases List.mem_append.1 hu with hu | hu
     ·obtain ⟨x,hx,a1⟩:=h.all u hu hpu
      rcases List.mem_append.1 hx with hx | hx
      ·exact ⟨x,by simp [hx],a1⟩
      ·obtain rfl:=List.mem_singleton.1 hx
       exact ⟨_,List.mem_append_right _ (List.mem_singleton.2 rfl),a1⟩
     ·obtain rfl:=List.mem_singleton.1 hu
      exact ⟨_,List.mem_append_right _ (List.mem_singleton.2 rfl),hep⟩
   ·have e1:qc6 (es0++[e]) v.path=es0++[e]++[⟨v.path,0,0,0⟩]:=by unfold qc6;rw [if_neg (by simp [hep])]
    rw [e1,qhs]
    have hlt:∀ x∈es0++[e],bsLt x.p v.path=true:=fun x hx=>by
     cases hb:bsLt x.p v.path with
     | true=>rfl
     | false =>
      have hxe:=qhc _ _ hb (hle x hx)
      exfalso
      rcases List.mem_append.1 hx with hx2 | hx2
      ·have h2:=hpw.2.2 x hx2 e (by simp)
       rw [hxe] at h2
       have:=hle e (by simp)
       rw [h2] at this;cases this
      ·obtain rfl:=List.mem_singleton.1 hx2
       exact hep hxe
    have hno:qbg vs v.path=[]:=by
     unfold qbg
     rw [List.filter_eq_nil_iff]
     intro u hu
     simp only [decide_eq_true_eq]
     intro e2
     obtain ⟨x,hx,e3⟩:=h.all u hu (by rw [e2];exact hp)
     have:=hlt x hx
     rw [e3,e2,qc0] at this;cases this
    refine ⟨List.pairwise_append.2 ⟨h.asc,List.pairwise_singleton _ _,fun x hx y hy=>?_⟩,fun x hx=>?_,fun u hu hpu=>?_⟩
    ·obtain rfl:=List.mem_singleton.1 hy
     exact hlt x hx
    ·rcases List.mem_append.1 hx with hx | hx
     ·obtain ⟨a1,⟨u,hu,a2⟩,a3⟩:=h.ent x hx
      refine ⟨a1,⟨u,by simp [hu],a2⟩,?_⟩
      rw [qj0]
      ·exact a3
      ·intro e2
       have:=hlt x hx
       rw [e2,qc0] at this;cases this
     ·obtain rfl:=List.mem_singleton.1 hx
      refine ⟨hp,⟨v,by simp,rfl⟩,?_⟩
      simp only
      rw [qk5,hno];rfl
    ·rcases List.mem_append.1 hu with hu | hu
     ·obtain ⟨x,hx,a1⟩:=h.all u hu hpu
      exact ⟨x,List.mem_append_left _ hx,a1⟩
     ·obtain rfl:=List.mem_singleton.1 hu
      exact ⟨_,List.mem_append_right _ (List.mem_singleton.2 rfl),rfl⟩
 ·rw [if_neg hp]
  refine ⟨h.asc,fun e he=>?_,fun u hu hpu=>?_⟩
  ·obtain ⟨a1,⟨u,hu,a2⟩,a3⟩:=h.ent e he
   refine ⟨a1,⟨u,by simp [hu],a2⟩,?_⟩
   rw [qj0]
   ·exact a3
   ·intro e2;rw [e2] at hp;exact hp a1
  ·rcases List.mem_append.1 hu with hu | hu
   ·exact h.all u hu hpu
   ·obtain rfl:=List.mem_singleton.1 hu
    exact absurd hpu hp
theorem qrc (pre:Bs) {vs:List RVer} (hs:vs.Pairwise (fun a b=>bsLt b.path a.path=false)):∀ k,k≤vs.length→EntInv pre (vs.take k) (entsR pre (vs.take k))
 | 0,_=>⟨List.Pairwise.nil,(fun e he=>by cases he),(fun v hv=>by cases hv)⟩
 | k+1,hk=>by
  rw [qp5 (by omega),List.take_succ_eq_append_getElem (by omega)]
  refine (qrc pre hs k (by omega)).step (fun u hu=>?_)
  have h1:=List.pairwise_iff_getElem.1 hs
  obtain ⟨i,hi,rfl⟩:=List.getElem_of_mem hu
  rw [List.length_take] at hi
  rw [List.getElem_take]
  exact h1 i k (by omega) (by omega) (by omega)
theorem q2a (pre:Bs) {vs:List RVer} (hs:vs.Pairwise (fun a b=>bsLt b.path a.path=false)):EntInv pre vs (entsR pre vs):=by
 have:=qrc pre hs vs.length (Nat.le_refl _)
 rwa [List.take_length] at this
theorem qrt:∀ {l m:List EntL},l.Pairwise (fun a b=>bsLt a.p b.p=true)→m.Pairwise (fun a b=>bsLt a.p b.p=true)→(∀ x,x∈l↔x∈m)→l=m
 | [],[],_,_,_=>rfl
 | [],b::m,_,_,h=>by have:=(h b).2 (by simp);cases this
 | a::l,[],_,_,h=>by have:=(h a).1 (by simp);cases this
 | a::l,b::m,hl,hm,h=>by
  rw [List.pairwise_cons] at hl hm
  have hirr:∀ x y:EntL,bsLt x.p y.p=true→x≠y:=fun x y hxy e=>by rw [e,qc0] at hxy;cases hxy
  have hab:a=b:=by
   rcases List.mem_cons.1 ((h a).1 (by simp)) with h1 | h1
   ·exact h1
   ·rcases List.mem_cons.1 ((h b).2 (by simp)) with h2 | h2
    ·exact h2.symm
    ·have h3:=hm.1 a h1
     have h4:=hl.1 b h2
     rw [qlp h3] at h4;cases h4
  subst hab
  congr 1
  refine qrt hl.2 hm.2 (fun x=>⟨fun hx=>?_,fun hx=>?_⟩)
  ·rcases List.mem_cons.1 ((h x).1 (by simp [hx])) with h1 | h1
   ·exact absurd h1.symm (hirr _ _ (hl.1 x hx))
   ·exact h1
  ·rcases List.mem_cons.1 ((h x).2 (by simp [hx])) with h1 | h1
   ·exact absurd h1.symm (hirr _ _ (hm.1 x hx))
   ·exact h1
theorem q42 {ps:List PathL} (hn:(ps.map (·.key)).Nodup):∀ {p:PathL},p∈ps→ps.find? (fun q=>decide (q.key=p.key))=some p:=by
 induction ps with
 | nil=>intro p hp;cases hp
 | cons a r ih =>
  intro p hp
  rw [List.map_cons,List.nodup_cons] at hn
  rcases List.mem_cons.1 hp with rfl | hp
  ·rw [List.find?_cons_of_pos (by simp)]
  ·rw [List.find?_cons_of_neg (by
    simp only [decide_eq_true_eq]
    intro e
    exact hn.1 (e ▸ List.mem_map.2 ⟨p,hp,rfl⟩))]
   exact ih hn.2 hp
theorem qkw {ps:List PathL} {c:Nat} (h:PathsOk ps c):(ps.map (·.key)).Nodup:=by
 have:=h.map.nodup
 rw [List.map_map] at this
 exact this
theorem qgw {ps:List PathL} {c:Nat} (h:PathsOk ps c) {p:PathL} (hp:p∈ps):qaq ps p.key=p.g:=by
 unfold qaq gOf
 rw [q42 (qkw h) hp]
theorem Link.pEnt {S:AS} {R:RefL} (L:Link S R) (hok:ArOk S) {p:PathL} (hp:p∈S.ps):pEnt p=entOf R.vs p.key∧qbg R.vs p.key≠[]:=by
 have hv:=L.vers p.key
 rw [qgw hok.paths hp] at hv
 have hne:=hok.some p hp
 have hlen:=congrArg List.length hv
 rw [List.length_map,List.length_map] at hlen
 have hne2:qbg R.vs p.key≠[]:=fun e=>by rw [e] at hlen;exact hne (List.length_eq_zero_iff.1 hlen)
 refine ⟨?_,hne2⟩
 have hl:=congrArg List.getLast? hv
 rw [List.getLast?_map,List.getLast?_map] at hl
 unfold Go.Proofs.YtdhobpbngkainaaGreatDoor.pEnt entOf lastV
 obtain ⟨V,hV⟩:∃ V,p.g.getLast?=some V:=by
  cases h:p.g.getLast? with
  | none=>exact absurd (List.getLast?_eq_none_iff.1 h) hne
  | some V=>exact ⟨V,rfl⟩
 obtain ⟨v,hv2⟩:∃ v,(qbg R.vs p.key).getLast?=some v:=by
  cases h:(qbg R.vs p.key).getLast? with
  | none=>exact absurd (List.getLast?_eq_none_iff.1 h) hne2
  | some v=>exact ⟨v,rfl⟩
 rw [hV,hv2] at hl
 simp only [Option.map_some,Option.some.injEq] at hl
 rw [hV,hv2]
 have h1:(V.num:Int)=v.num:=congrArg (fun t:Trip=>t.1) hl
 have h2:contV S V=v.cont:=congrArg (fun t:Trip=>t.2.1) hl
 have h3:(contV S V).length=V.size:=qh1 hok hp (List.mem_of_getLast? hV)
 simp only [Option.getD_some,Option.map_some,h1,EntL.mk.injEq,true_and]
 exact ⟨by rw [← h3,h2],by rw [hlen]⟩
theorem Link.list {S:AS} {R:RefL} (L:Link S R) (hok:ArOk S) (pre:Bs) {es:List EntL} (h:qvb (entsL pre S.ps) es):es=entsR pre R.vs:=by
 have hI:=q2a pre L.sorted
 have hmem:∀ x,x∈es↔∃ p∈S.ps,pre.isPrefixOf p.key=true∧x=Go.Proofs.YtdhobpbngkainaaGreatDoor.pEnt p:=fun x=>by
  rw [h.1.mem_iff]
  unfold entsL
  simp only [List.mem_map,List.mem_filter]
  exact ⟨fun ⟨p,⟨h1,h2⟩,h3⟩=>⟨p,h1,h2,h3.symm⟩,fun ⟨p,h1,h2,h3⟩=>⟨p,⟨h1,h2⟩,h3.symm⟩⟩
 refine qrt ?_ hI.asc (fun x=>?_)
 ·have hnd:(es.map (·.p)).Nodup:=by
   have h1:(es.map (·.p)).Perm ((entsL pre S.ps).map (·.p)):=h.1.map _
   rw [h1.nodup_iff]
   unfold entsL
   rw [List.map_map]
   have h2:=qkw hok.paths
   have h3:(S.ps.filter (fun p=>pre.isPrefixOf p.key)).map (fun p=>p.key)=((S.ps.filter (fun p=>pre.isPrefixOf p.key)).map ((·.p) ∘ Go.Proofs.YtdhobpbngkainaaGreatDoor.pEnt)):=rfl
   rw [← h3]
   exact List.Nodup.sublist (List.filter_sublist.map _) h2
  rw [List.pairwise_iff_getElem]
  intro i j hi hj hij
  have h2:=h.2 i j hij hj hi
  cases hb:bsLt es[i].p es[j].p with
  | true=>rfl
  | false =>
   exfalso
   have he:=qhc _ _ hb h2
   have h3:=(List.pairwise_iff_getElem.1 hnd) i j (by simpa using hi) (by simpa using hj) hij
   simp only [List.getElem_map] at h3
   exact h3 he
 ·rw [hmem]
  refine ⟨fun ⟨p,hp,hpre,he⟩=>?_,fun hx=>?_⟩
  ·obtain ⟨h1,h2⟩:=L.pEnt hok hp
   obtain ⟨v,hv⟩:=List.exists_mem_of_ne_nil _ h2
   obtain ⟨hv1,hv2⟩:=List.mem_filter.1 hv
   simp only [decide_eq_true_eq] at hv2
   obtain ⟨e,he2,he3⟩:=hI.all v hv1 (by rw [hv2];exact hpre)
   have h3:=(hI.ent e he2).2.2
   rw [he3,hv2] at h3
   rw [he,h1,← h3]
   exact he2
  ·obtain ⟨h1,⟨v,hv1,hv2⟩,h3⟩:=hI.ent x hx
   have hne:qaq S.ps x.p≠[]:=fun e=>by
    have h4:=L.vers x.p
    rw [e] at h4
    have h5:v∈qbg R.vs x.p:=List.mem_filter.2 ⟨hv1,by simpa using hv2⟩
    have h6:=congrArg List.length h4
    rw [List.length_map,List.length_map] at h6
    have:=List.length_pos_of_mem h5
    simp only [List.length_nil] at h6
    omega
   obtain ⟨p,hp,hk,-⟩:=qcu hne
   refine ⟨p,hp,by rw [hk];exact h1,?_⟩
   rw [(L.pEnt hok hp).1,hk];exact h3
end Go.Proofs.YtdhobpbngkainaaGreatDoor
