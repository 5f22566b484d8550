/- ShowBack of the given program, part 5 of 6 of the proof: for all arguments within the bound the law answers true, and each argument reads behind the call as before. Conditions: those of the given card. -/
import Derived.Test.YtnlggapedakocaaGreatDoorZ4
import Derived.Shelf.Strings.Count
import Derived.Test.YtnlggapedakocaaGreatDoorProg
import Derived.Tactics
import Derived.Tactics2
import Derived.Defers
import Derived.Laws.Pointers
import Derived.Laws.LoneSync
import Derived.Laws.NewBlocks
import Derived.RegionTactic
import Derived.RegionCalls
import Derived.ChangeAlike
import Derived.Lib.ItoaLen
import Derived.Lib.ItoaNum
set_option maxHeartbeats 1600000
set_option linter.all false
set_option linter.unusedVariables false
set_option linter.unusedSimpArgs false
set_option linter.unnecessarySimpa false
section
namespace Go.Am
set_option maxRecDepth 100000
attribute [local irreducible] vc vcIs vcI vcOp vcD vcDp vcDR vcT vcAR cf0 bb0 panD neG ne pv J bY0 b50 ci0 bo0 evK evsK nthK objK boxK rowK bQ0 intK strK aggK fnK ifcK az0 aA0 ldK ldaK iaK srcK stK appK appD cn0 pvK bT0 a30 b40 bJ0 slAV bX0
theorem tt0 (s:ByteArray) (i:Nat) (h:(s.get! i).toNat<128):Utf8.decode s i=((s.get! i).toNat,1):=by
 unfold Utf8.decode
 simp[h]
theorem decode_high (s:ByteArray) (i:Nat) (h:¬ (s.get! i).toNat<128):128<=(Utf8.decode s i).1:=by
 unfold Utf8.decode
 have h0:¬ (s.get! (i+0)).toNat<128:=h
 simp only[if_neg h0]
 repeat' split
 all_goals first|(simp[Utf8.runeError];done)|(dsimp only;omega)|(rename_i hh;simp only[Bool.and_eq_true,decide_eq_true_eq,ge_iff_le] at hh;dsimp only;omega)
def plR (r:Nat):Bool:=decide (r<32)||decide (126<r)
theorem qM0 (s:ByteArray):∀ (f pos:Nat),s.size<=pos+f->(Lib.idxFuncFrom plR true s f pos<0 ↔ ∀ j,pos<=j->j<s.size->32<=(s.get! j).toNat/\(s.get! j).toNat<=126)
 | 0,pos,h=>by simp[Lib.idxFuncFrom];intro j h1 h2;omega
 | f+1,pos,h=>by
  rw[Lib.idxFuncFrom]
  by_cases hp:pos<s.size
  ·rw[if_pos hp]
   by_cases hl:(s.get! pos).toNat<128
   ·rw[tt0 s pos hl]
    dsimp only
    by_cases hb:plR (s.get! pos).toNat=true
    ·rw[if_pos hb]
     constructor
     ·intro h';omega
     ·intro h'
      have:=h' pos (Nat.le_refl _) hp
      simp only[plR,Bool.or_eq_true,decide_eq_true_eq] at hb
      omega
    ·rw[if_neg hb,qM0 s f (pos+1) (by omega)]
     simp only[plR,Bool.or_eq_true,decide_eq_true_eq] at hb
     constructor
     ·intro h' j h1 h2
      by_cases e:j=pos
      ·subst e;omega
      ·exact h' j (by omega) h2
     ·intro h' j h1 h2;exact h' j (by omega) h2
   ·have hd:=decode_high s pos hl
    rw[if_pos (by simp only[plR,Bool.or_eq_true,decide_eq_true_eq];omega)]
    constructor
    ·intro h';omega
    ·intro h';have:=h' pos (Nat.le_refl _) hp;omega
  ·rw[if_neg hp]
   simp
   intro j h1 h2;omega
theorem qo0 (x:Int) (h0:0<=x) (h1:x<=1114111):Ret prog iG0 [.c (.int .i32 x)] (vB (decide (x<32)||decide (126<x))):=by
 refine cH0 ow0 (by simp) ?_
 exact rT1 @kG0.eq_1
theorem J.belows {f:FuncId} {fn:Func} {c:Code} {args:List V} {v:V} (hf:prog.funcs[f]?=some fn) (hn:(fn.name == "runtime.NumGoroutine")=false) (hb:fn.body=some c) (h:Ret prog f args v)
  {H:Imm} {μ:Mu} {us:Array Value} {w:World} (h3:RL H μ args us) (hW:Wd H μ (hpE 0 []) w) :
  Calls prog f us w λe w'=>(∃ x H' μ',e=.returned x/\R H' μ' v x)/\Go.RowKit.Below w.heap.size w w':=by
 have hn':¬ fn.name = "runtime.NumGoroutine":=by simpa using hn
 have hrun:(callFunc f us).run prog w=.ok (.enter f us) w:=by simp[callFunc,hf,hn',hb]
 unfold Ret J at h
 have hc:=h H μ us w h3 hW
 unfold ed0 at hc
 rw[hrun] at hc
 refine Calls.mono hc ?_
 rintro e w' ⟨r,H',μ',rfl,⟨x,rfl,hx⟩,hN,_⟩
 exact⟨⟨x,H',μ',rfl,hx⟩,⟨hN.os,hN.tape,hN.output,hN.size,λb hb=>hN.keep b hb (by rintro⟨i,o,blk,h,_⟩;simp[hpE] at h)⟩⟩
theorem tl0 (us:Array Value) (w:World):(callFunc 125 us).run prog w=.ok (.enter 125 us) w:=by
 obtain⟨c,hc⟩:∃ c,Go.Proofs.Tryz.f125.body=some c:=⟨_,rfl⟩
 have hn:(Go.Proofs.Tryz.f125.name == "runtime.NumGoroutine")=false:=by kernel_rfl
 have hn':¬ Go.Proofs.Tryz.f125.name = "runtime.NumGoroutine":=by simpa using hn
 simp[callFunc,Go.Proofs.Tryz.func125,hn',hc]
theorem ne0 (s:ByteArray):Ret prog k10 [vS s,.fn iG0 []] (vI (Lib.idxFunc plR true s)):=by
 obtain⟨c,hc⟩:∃ c,Go.Proofs.Tryz.f124.body=some c:=⟨_,rfl⟩
 obtain⟨c2,hc2⟩:∃ c,Go.Proofs.Tryz.f125.body=some c:=⟨_,rfl⟩
 refine rF0 Go.Proofs.Tryz.func124 (by kernel_rfl) hc ?_
 intro H μ us w hv hW
 have r0:=hv.2 0 _ rfl
 have r1:=hv.2 1 _ rfl
 rw[nb0 hv]
 generalize us.getD 0 undef=p at r0
 generalize us.getD 1 undef=q at r1
 cases r0
 cases r1 with
 | fn _ _ vs hnv hr =>
 obtain rfl:vs=#[]:=Array.eq_empty_of_size_eq_zero (by simpa using hnv)
 have hp:Go.Proofs.PredGrows prog 125 #[] plR w:=by
  intro W x hx hB
  have hWW:Wd H μ (hpE 0 []) W:=hW.below hB.block
  have hk:=J.belows Go.Proofs.Tryz.func125 (by kernel_rfl) hc2 (qo0 (x:Int) (by omega) (by omega)) (H:=H) (μ:=μ) (us:=#[.int .i32 (x:Int)]++#[]) (w:=W) ⟨rfl,λj u hj=>by
   match j,hj with
   | 0,hj=>injection hj with hj;subst hj;exact .c _
   | j+1,hj=>simp at hj⟩ hWW
  refine Calls.mono hk ?_
  rintro e w' ⟨⟨y,H',μ',rfl,hy⟩,hb⟩
  cases hy
  refine⟨?_,hb⟩
  have e1:(decide ((x:Int)<32)||decide (126<(x:Int)))=plR x:=by
   unfold plR
   congr 1<;>(rw[decide_eq_decide];omega)
  rw[<- e1]
 have hj:=Go.Proofs.Any.strings_IndexFunc_grows Go.Proofs.Tryz.laysGw15 125 #[] tl0 plR s w hp
 have hfin:Calls prog 124 #[.string s,.func (.func 125) #[] #[]] w λe w'=>e=.returned (.int .i64 (Lib.idxFunc plR true s))/\Go.RowKit.Below w.heap.size w w':=hj
 refine Calls.mono hfin ?_
 rintro e w' ⟨he,hB⟩
 exact⟨⟨_,he,.c _⟩,hB⟩
theorem sz0 (s:ByteArray) {j:Nat} (hj:j<s.size):s.get! j=s.data.toList[j]'(by simpa using hj):=by
 show s.data[j]! = _
 rw[getElem!_pos s.data j hj]
 simp
theorem plain_iff (s:ByteArray):(decide (Lib.idxFunc plR true s<0))=(sB s).all λc=>decide (32<=c/\c<=126):=by
 rw[Bool.eq_iff_iff,decide_eq_true_eq,List.all_eq_true]
 unfold Lib.idxFunc
 rw[qM0 s s.size 0 (by omega)]
 constructor
 ·intro h c hc
  obtain⟨j,hj,rfl⟩:=List.getElem_of_mem hc
  have hj':j<s.size:=by simpa using hj
  have:=h j (by omega) hj'
  rw[sz0 s hj'] at this
  rw[decide_eq_true_eq,UInt8.le_iff_toNat_le,UInt8.le_iff_toNat_le]
  exact this
 ·intro h j _ hj
  have:=h (s.data.toList[j]'(by simpa using hj)) (List.getElem_mem _)
  rw[decide_eq_true_eq,UInt8.le_iff_toNat_le,UInt8.le_iff_toNat_le] at this
  rw[sz0 s hj]
  exact this
theorem oB0 (s:ByteArray) (hs:s.size<2 ^ 40):Ret prog nv0 [vS s] (vB (g70 (sB s))):=by
 have hl:(sB s).length=s.size:=rfl
 refine cH0 qE0 (by simp) ?_
 by_cases h:(s.size:Int)<=256
 ·have h':s.size<=256:=by omega
  have hp:g70 (sB s)=decide (Lib.idxFunc plR true s<0):=by rw[plain_iff];unfold g70;rw[hl];simp[h']
  refine rS2 @jr0.eq_1 h ?_
  refine ak0 ?_;simp;refine ah0 (ne0 s) (by simp) ?_
  exact rT1 hp
 ·have h':¬ s.size<=256:=by omega
  have hp:g70 (sB s)=false:=by unfold g70;rw[hl];simp[h']
  exact rT3 @jr0.eq_1 h hp
end Go.Am
end

section
namespace Go.Proofs
open Go.Shelf
def Tryz.rZ0:Go.Shelf.Ren:=⟨fun|138=>210|195=>211|218=>212|143=>213|219=>214|217=>79|225=>147|224=>146|267=>215|266=>110|314=>216|n=>n,fun|9=>9|3=>3|4=>4|5=>5|0=>0|46=>52|146=>263|51=>152|n=>n,fun|1=>1|n=>n⟩
theorem Tryz.lays138:Go.Proofs.Lays.n138 Tryz.prog Tryz.rZ0:={
 mixed:=by kernel_rfl
 f138:=Tryz.func210.trans (congrArg some (by kernel_rfl))
 f143:=Tryz.func213.trans (congrArg some (by kernel_rfl))
 f195:=Tryz.func211.trans (congrArg some (by kernel_rfl))
 f217:=Tryz.func79.trans (congrArg some (by kernel_rfl))
 f218:=Tryz.func212.trans (congrArg some (by kernel_rfl))
 f219:=Tryz.func214.trans (congrArg some (by kernel_rfl))
 f224:=Tryz.func146.trans (congrArg some (by kernel_rfl))
 f225:=Tryz.func147.trans (congrArg some (by kernel_rfl))
 f266:=Tryz.func110.trans (congrArg some (by kernel_rfl))
 f267:=Tryz.func215.trans (congrArg some (by kernel_rfl))
 f314:=Tryz.func216.trans (congrArg some (by kernel_rfl))
 t0:=Tryz.underlying0
 a0:=Tryz.isAgg0
 z0:=Tryz.sizeOf0
 v0:=Tryz.zeroValue0
 t3:=Tryz.underlying3
 a3:=Tryz.isAgg3
 z3:=Tryz.sizeOf3
 v3:=Tryz.zeroValue3
 t4:=Tryz.underlying4
 a4:=Tryz.isAgg4
 z4:=Tryz.sizeOf4
 v4:=Tryz.zeroValue4
 t5:=Tryz.underlying5
 a5:=Tryz.isAgg5
 z5:=Tryz.sizeOf5
 v5:=Tryz.zeroValue5
 t9:=Tryz.underlying9
 a9:=Tryz.isAgg9
 z9:=Tryz.sizeOf9
 v9:=Tryz.zeroValue9
 t46:=Tryz.underlying52
 a46:=Tryz.isAgg52
 z46:=Tryz.sizeOf52
 v46:=Tryz.zeroValue52
 t51:=Tryz.underlying152
 a51:=Tryz.isAgg152
 z51:=Tryz.sizeOf152
 v51:=Tryz.zeroValue152
 t146:=Tryz.underlying263
 a146:=Tryz.isAgg263
 z146:=Tryz.sizeOf263
 v146:=Tryz.zeroValue263
 g1:=by kernel_rfl }
end Go.Proofs
end

section
namespace Go.Am
set_option maxRecDepth 100000
theorem dy0:bg0.alt=(.seq (.reg [⟨(some 4),none,(.mv (.const (.string ⟨⟨[]⟩⟩)))⟩]) (.seq (.reg [⟨(some 16),none,(.mv (.tmp 1))⟩,⟨(some 17),none,(.lenS (.tmp 16))⟩,⟨(some 5),none,(.mv (.tmp 17))⟩]) (.seq (.reg [⟨(some 6),none,(.mv (.const (.bool false)))⟩]) (.seq (.seq (.reg [⟨(some 18),none,(.mv (.tmp 0))⟩,⟨(some 19),none,(.nchk (.tmp 18))⟩,⟨(some 20),none,(.fa 256 (.tmp 19))⟩,⟨(some 21),none,(.ld (.tmp 20))⟩,⟨(some 22),none,(.len (.tmp 21))⟩,⟨(some 23),none,(.bin .mul (.tmp 22) (.const (.int .i64 8)))⟩,⟨(some 24),none,(.mv (.tmp 1))⟩,⟨(some 25),none,(.lenS (.tmp 24))⟩,⟨(some 26),none,(.bin .leq (.tmp 23) (.tmp 25))⟩]) (.cond (.tmp 26) (.seq (.reg [⟨(some 27),none,(.mv (.tmp 0))⟩,⟨(some 28),none,(.nchk (.tmp 27))⟩,⟨(some 29),none,(.fa 256 (.tmp 28))⟩,⟨(some 30),none,(.ld (.tmp 29))⟩,⟨(some 31),none,(.len (.tmp 30))⟩,⟨(some 32),none,(.mv (.const (.int .i64 0)))⟩]) (.blk 0 (.loop (.seq (.reg [⟨(some 33),none,(.bin .lss (.tmp 32) (.tmp 31))⟩]) (.seq (.cond (.tmp 33) .skip (.exit 0)) (.seq (.blk 1 (.seq (.reg [⟨(some 34),none,(.ia 1 (.tmp 30) (.tmp 32))⟩,⟨(some 35),none,(.ld (.tmp 34))⟩,⟨(some 8),none,(.mv (.tmp 35))⟩]) (.seq (.reg [⟨(some 36),none,(.mv (.tmp 1))⟩,⟨(some 37),none,(.mv (.tmp 8))⟩,⟨(some 38),none,(.call (.func 210) [(.tmp 36),(.tmp 37)])⟩,⟨(some 9),none,(.mv (.tmp 38))⟩]) (.seq (.reg [⟨(some 39),none,(.mv (.tmp 9))⟩,⟨(some 40),none,(.bin .neq (.tmp 39) (.const (.int .i64 0)))⟩]) (.cond (.tmp 40) (.seq (.areg (AT.take ⟨(some 41),none,(.mv (.tmp 5))⟩ (AT.take ⟨(some 42),none,(.mv (.tmp 9))⟩ (AT.take ⟨(some 43),none,(.mv (.tmp 0))⟩ (AT.take ⟨(some 44),none,(.mv (.tmp 8))⟩ (AT.take ⟨(some 46),none,(.nchk (.tmp 43))⟩ (AT.take ⟨(some 47),none,(.fa 0 (.tmp 46))⟩ (AT.alt ⟨(some 45),none,(.ixS (.tmp 44) (.const (.int .i64 0)))⟩ (AT.alt ⟨(some 48),none,(.iaA 256 1 (.tmp 47) (.tmp 45))⟩ (AT.alt ⟨(some 49),none,(.ld (.tmp 48))⟩ (AT.alt ⟨(some 50),none,(.len (.tmp 49))⟩ (AT.alt ⟨(some 51),none,(.bin .sub (.tmp 50) (.const (.int .i64 1)))⟩ (AT.alt ⟨(some 52),none,(.bin .mul (.tmp 42) (.tmp 51))⟩ AT.done AT.nil) AT.nil) AT.nil) AT.nil) AT.nil) AT.nil))))))) [⟨(some 53),none,(.bin .add (.tmp 41) (.tmp 52))⟩,⟨(some 5),none,(.mv (.tmp 53))⟩] [(some 41),(some 42),(some 43),(some 44),(some 45),(some 46),(some 47),(some 48),(some 49),(some 50),(some 51),(some 52),(some 53),(some 5)]) (.reg [⟨(some 6),none,(.mv (.const (.bool true)))⟩])) .skip))))) (.reg [⟨(some 54),none,(.bin .add (.tmp 32) (.const (.int .i64 1)))⟩,⟨(some 32),none,(.mv (.tmp 54))⟩]))))))) (.seq (.reg [⟨(some 10),none,(.mv (.const (.int .i64 0)))⟩]) (.blk 2 (.loop (.seq (.seq (.reg [⟨(some 55),none,(.mv (.tmp 10))⟩,⟨(some 56),none,(.mv (.tmp 1))⟩,⟨(some 57),none,(.lenS (.tmp 56))⟩,⟨(some 58),none,(.bin .lss (.tmp 55) (.tmp 57))⟩]) (.cond (.tmp 58) .skip (.exit 2))) (.seq (.blk 3 (.seq (.reg [⟨(some 61),none,(.mv (.tmp 1))⟩,⟨(some 62),none,(.mv (.tmp 10))⟩,⟨(some 63),none,(.ixS (.tmp 61) (.tmp 62))⟩,⟨(some 11),none,(.mv (.tmp 63))⟩]) (.seq (.reg [⟨(some 64),none,(.mv (.tmp 0))⟩,⟨(some 65),none,(.mv (.tmp 11))⟩,⟨(some 66),none,(.nchk (.tmp 64))⟩,⟨(some 67),none,(.fa 0 (.tmp 66))⟩,⟨(some 68),none,(.iaA 256 1 (.tmp 67) (.tmp 65))⟩,⟨(some 69),none,(.ld (.tmp 68))⟩,⟨(some 70),none,(.isnl true (.tmp 69))⟩]) (.cond (.tmp 70) (.seq (.reg [⟨(some 71),none,(.mv (.tmp 5))⟩,⟨(some 72),none,(.mv (.tmp 0))⟩,⟨(some 73),none,(.mv (.tmp 11))⟩,⟨(some 74),none,(.nchk (.tmp 72))⟩,⟨(some 75),none,(.fa 0 (.tmp 74))⟩,⟨(some 76),none,(.iaA 256 1 (.tmp 75) (.tmp 73))⟩,⟨(some 77),none,(.ld (.tmp 76))⟩,⟨(some 78),none,(.len (.tmp 77))⟩,⟨(some 79),none,(.bin .sub (.tmp 78) (.const (.int .i64 1)))⟩,⟨(some 80),none,(.bin .add (.tmp 71) (.tmp 79))⟩,⟨(some 5),none,(.mv (.tmp 80))⟩]) (.reg [⟨(some 6),none,(.mv (.const (.bool true)))⟩])) .skip)))) (.reg [⟨(some 59),none,(.mv (.tmp 10))⟩,⟨(some 60),none,(.bin .add (.tmp 59) (.const (.int .i64 1)))⟩,⟨(some 10),none,(.mv (.tmp 60))⟩])))))))) (.seq (.seq (.reg [⟨(some 81),none,(.mv (.tmp 6))⟩,⟨(some 82),none,(.un .not (.tmp 81))⟩]) (.cond (.tmp 82) (.seq (.reg [⟨(some 83),none,(.mv (.tmp 1))⟩,⟨(some 4),none,(.mv (.tmp 83))⟩]) .ret) .skip)) (.seq (.reg [⟨(some 84),none,(.mv (.tmp 5))⟩,⟨(some 85),none,(.mks 5 1 1 [(.c (.int .u8 0))] (.tmp 84) (.tmp 84))⟩,⟨(some 12),none,(.mv (.tmp 85))⟩]) (.seq (.reg [⟨(some 13),none,(.mv (.const (.int .i64 0)))⟩]) (.seq (.seq (.reg [⟨(some 14),none,(.mv (.const (.int .i64 0)))⟩]) (.blk 4 (.loop (.seq (.seq (.reg [⟨(some 86),none,(.mv (.tmp 14))⟩,⟨(some 87),none,(.mv (.tmp 1))⟩,⟨(some 88),none,(.lenS (.tmp 87))⟩,⟨(some 89),none,(.bin .lss (.tmp 86) (.tmp 88))⟩]) (.cond (.tmp 89) .skip (.exit 4))) (.seq (.blk 5 (.seq (.reg [⟨(some 92),none,(.mv (.tmp 1))⟩,⟨(some 93),none,(.mv (.tmp 14))⟩,⟨(some 94),none,(.ixS (.tmp 92) (.tmp 93))⟩,⟨(some 15),none,(.mv (.tmp 94))⟩]) (.seq (.reg [⟨(some 95),none,(.mv (.tmp 0))⟩,⟨(some 96),none,(.mv (.tmp 15))⟩,⟨(some 97),none,(.nchk (.tmp 95))⟩,⟨(some 98),none,(.fa 0 (.tmp 97))⟩,⟨(some 99),none,(.iaA 256 1 (.tmp 98) (.tmp 96))⟩,⟨(some 100),none,(.ld (.tmp 99))⟩,⟨(some 101),none,(.isnl true (.tmp 100))⟩]) (.cond (.tmp 101) (.areg (AT.take ⟨(some 102),none,(.mv (.tmp 13))⟩ (AT.take ⟨(some 103),none,(.mv (.tmp 12))⟩ (AT.take ⟨(some 104),none,(.mv (.tmp 13))⟩ (AT.take ⟨(some 106),none,(.mv (.tmp 0))⟩ (AT.take ⟨(some 107),none,(.mv (.tmp 15))⟩ (AT.take ⟨(some 108),none,(.nchk (.tmp 106))⟩ (AT.take ⟨(some 109),none,(.fa 0 (.tmp 108))⟩ (AT.alt ⟨(some 105),none,(.slL 1 (.tmp 103) (some (.tmp 104)) none)⟩ (AT.alt ⟨(some 110),none,(.iaA 256 1 (.tmp 109) (.tmp 107))⟩ (AT.alt ⟨(some 111),none,(.ld (.tmp 110))⟩ (AT.alt ⟨(some 112),none,(.cpy 1 (.tmp 105) (.tmp 111))⟩ AT.done AT.nil) AT.nil) AT.nil) (AT.alt ⟨(some 110),none,(.iaA 256 1 (.tmp 109) (.tmp 107))⟩ (AT.alt ⟨(some 105),none,(.slL 1 (.tmp 103) (some (.tmp 104)) none)⟩ (AT.alt ⟨(some 111),none,(.ld (.tmp 110))⟩ (AT.alt ⟨(some 112),none,(.cpy 1 (.tmp 105) (.tmp 111))⟩ AT.done AT.nil) AT.nil) (AT.alt ⟨(some 111),none,(.ld (.tmp 110))⟩ (AT.alt ⟨(some 105),none,(.slL 1 (.tmp 103) (some (.tmp 104)) none)⟩ (AT.alt ⟨(some 112),none,(.cpy 1 (.tmp 105) (.tmp 111))⟩ AT.done AT.nil) AT.nil) AT.nil)) AT.nil))))))))) [⟨(some 113),none,(.bin .add (.tmp 102) (.tmp 112))⟩,⟨(some 13),none,(.mv (.tmp 113))⟩] [(some 102),(some 103),(some 104),(some 105),(some 106),(some 107),(some 108),(some 109),(some 110),(some 111),(some 112),(some 113),(some 13)]) (.seq (.reg [⟨(some 114),none,(.mv (.tmp 12))⟩,⟨(some 115),none,(.mv (.tmp 13))⟩,⟨(some 116),none,(.mv (.tmp 15))⟩,⟨(some 117),none,(.ia 1 (.tmp 114) (.tmp 115))⟩,⟨none,none,(.st 1 (.tmp 117) (.tmp 116))⟩]) (.reg [⟨(some 118),none,(.mv (.tmp 13))⟩,⟨(some 119),none,(.bin .add (.tmp 118) (.const (.int .i64 1)))⟩,⟨(some 13),none,(.mv (.tmp 119))⟩])))))) (.reg [⟨(some 90),none,(.mv (.tmp 14))⟩,⟨(some 91),none,(.bin .add (.tmp 90) (.const (.int .i64 1)))⟩,⟨(some 14),none,(.mv (.tmp 91))⟩])))))) (.seq (.reg [⟨(some 120),none,(.mv (.tmp 12))⟩,⟨(some 121),none,(.cvBS (.tmp 120))⟩,⟨(some 4),none,(.mv (.tmp 121))⟩]) .ret))))))))):=by rw[bg0];rfl
end Go.Am
end

section
namespace Go.Am
variable {hp:Hp}
def V.pD0:V->Bool
 | .c v=>v.oneCell'
 | .lst _=>true
 | .rp _=>true
 | .nil=>true
 | _=>false
def kN0 (cs:List V):Bool:=cs.all V.pD0
theorem e60 {v:V} {cs:List V}:kN0 (v::cs)=(v.pD0&&kN0 cs):=_root_.id rfl
section
variable {cs:List V} (h:kN0 cs=true)
include h
theorem lv0 (i:Id):V.hasL i cs=false:=by
 induction cs with
 | nil=>simp
 | cons v cs ih =>
  rw[e60,Bool.and_eq_true] at h
  simp[ih h.2]
  have hv:=h.1
  cases v<;>first|(simp[V.pD0] at hv;done)|simp
theorem flatN_see (ks:List Id) (K:List V->Prop):V.seeL true ks hp cs K=K cs:=by
 induction cs generalizing K with
 | nil=>simp
 | cons v cs ih =>
  rw[e60,Bool.and_eq_true] at h
  rw[rp0]
  simp only[hold,ih h.2]
  have hv:=h.1
  cases v<;>first|(simp[V.pD0] at hv;done)|simp
theorem flatN_map (f:Id->Option Id) (K:List V->Prop):dt0 f cs K=K cs:=by
 induction cs generalizing K with
 | nil=>simp
 | cons v cs ih =>
  rw[e60,Bool.and_eq_true] at h
  rw[md0]
  simp only[hold,ih h.2]
  have hv:=h.1
  cases v<;>first|(simp[V.pD0] at hv;done)|simp
theorem tB0 (ks:List Id):V.bG0 ks cs=cs:=by
 induction cs with
 | nil=>simp
 | cons v cs ih =>
  rw[e60,Bool.and_eq_true] at h
  simp[ih h.2]
  have hv:=h.1
  cases v<;>first|(simp[V.pD0] at hv;done)|simp
end
end Go.Am
end

section
namespace Go.Am
set_option maxRecDepth 100000
theorem oM0 (s:ByteArray) (c:UInt8):Ret prog nA0 [vS s,vS (bS [c])] (vI ((sB s).count c)):=by
 obtain⟨cc,hc⟩:∃ c,Go.Proofs.Tryz.f210.body=some c:=⟨_,rfl⟩
 refine rF0 Go.Proofs.Tryz.func210 (by kernel_rfl) hc ?_
 intro H μ us w hv hW
 have r0:=hv.2 0 _ rfl
 have r1:=hv.2 1 _ rfl
 rw[nb0 hv]
 generalize us.getD 0 undef=p at r0
 generalize us.getD 1 undef=q at r1
 cases r0
 cases r1
 have hj:=Go.Proofs.Any.strings_Count_one Go.Proofs.Tryz.lays138 s c w
 have hfin:Calls prog 210 #[.string s,.string (bS [c])] w λe w'=>e=.returned (.int .i64 ((sB s).count c:Nat))/\w'=w:=hj
 refine Calls.mono hfin ?_
 rintro e w' ⟨he,rfl⟩
 exact⟨⟨_,he,.c _⟩,Go.RowKit.Below.refl _ _⟩
attribute [local irreducible] vc vcIs vcI vcOp vcD vcDp vcDR vcT vcAR cf0 bb0 panD neG ne pv J bY0 b50 ci0 bo0 evK evsK nthK objK boxK rowK bQ0 intK strK aggK fnK ifcK az0 aA0 ldK ldaK iaK srcK stK appK appD cn0 pvK bT0 a30 b40 bJ0 slAV bX0
def kD0 (c:UInt8):Option Bs:=if c=92 then some [92,92] else if c=34 then some [92,34] else none
def repV (c:UInt8):V:=match kD0 c with
 | some t=>.lst (t.map aq0)
 | none=>.nil
def repC:List V:=(List.range 256).map λi=>repV (UInt8.ofNat i)
def repB (s:Bs):Bs:=s.flatMap λc=>(kD0 c).getD [c]
def rk0:List Ob:=[.box (repC++[.lst [aW0 [34],aW0 [92]]])]
theorem p50:repC.length=256:=by simp[repC]
theorem repC_get (c:UInt8):(repC++[.lst [aW0 [34],aW0 [92]]])[c.toNat]?=some (repV c):=by
 have h:=c.toNat_lt
 rw[List.getElem?_append_left (by rw[p50];exact h)]
 simp[repC,List.getElem?_range h]
theorem nQ0 {vs:List V} {n:Nat} {v:V} {K:V->Prop} (h:vs[n]?=some v):nthK vs n K=K v:=by
 rw[jI0]
 exact propext ⟨λ⟨u,h1,h2⟩=>by rw[h] at h1;injection h1 with h1;subst h1;exact h2,λhk=>⟨v,h,hk⟩⟩
theorem g30 (c:UInt8) {K:V->Prop}:nthK (repC++[.lst [aW0 [34],aW0 [92]]]) c.toNat K=K (repV c):=nQ0 (repC_get c)
theorem nR0 {K:V->Prop}:nthK (repC++[.lst [aW0 [34],aW0 [92]]]) 34 K=K (.lst [[vU 92],[vU 34]]):=g30 34
theorem nS0 {K:V->Prop}:nthK (repC++[.lst [aW0 [34],aW0 [92]]]) 92 K=K (.lst [[vU 92],[vU 92]]):=g30 92
theorem pP0 {K:V->Prop}:nthK (repC++[.lst [aW0 [34],aW0 [92]]]) 256 K=K (.lst [aW0 [34],aW0 [92]]):=nQ0 (by
 rw[List.getElem?_append_right (by rw[p50];omega),p50];rfl)
theorem kc0 (l:List (List V)):kN0 (repC++[.lst l])=true:=by
 unfold kN0
 rw[List.all_eq_true]
 intro v hv
 rcases List.mem_append.1 hv with hv|hv
 ·simp only[repC,List.mem_map] at hv
  obtain⟨i,_,rfl⟩:=hv
  unfold repV
  split<;>rfl
 ·obtain rfl:=List.mem_singleton.1 hv
  rfl
section
variable {l:List (List V)} {Ks:List V->Prop} {hp:Hp}
@[simp] theorem rep_has0 {i:Id}:V.hasL i (repC++[.lst l])=false:=lv0 (kc0 l) i
@[simp] theorem rep_see0 {ks:List Id}:V.seeL true ks hp (repC++[.lst l]) Ks=Ks (repC++[.lst l]):=flatN_see (kc0 l) ks Ks
@[simp] theorem rep_map0 {f:Id->Option Id}:dt0 f (repC++[.lst l]) Ks=Ks (repC++[.lst l]):=flatN_map (kc0 l) f Ks
@[simp] theorem rep_hide0 {ks:List Id}:V.bG0 ks (repC++[.lst l])=repC++[.lst l]:=tB0 (kc0 l) ks
end
def cntN (s:Bs) (i:Nat):Nat:=(if 1<=i then s.count 34 else 0)+(if 2<=i then s.count 92 else 0)
theorem cntN0 (s:Bs):cntN s 0=0:=rfl
theorem cntN1 (s:Bs):cntN s 1=s.count 34:=rfl
theorem qx0 (s:Bs):cntN s 2=s.count 34+s.count 92:=rfl
theorem m70:repB []=[]:=rfl
theorem rj0 (s:Bs) (c:UInt8):repB (s++[c])=repB s++(kD0 c).getD [c]:=by simp[repB]
theorem rg0 (s:Bs) (c:UInt8):repB (c::s)=(kD0 c).getD [c]++repB s:=by simp[repB]
theorem p40 (s:Bs):(repB s).length=s.length+cntN s 2:=by
 rw[qx0]
 induction s with
 | nil=>rfl
 | cons c s ih =>
  rw[rg0,List.length_append,ih,List.count_cons,List.count_cons]
  unfold kD0
  by_cases h1:c=92
  ·subst h1;simp;omega
  ·by_cases h2:c=34
   ·subst h2;simp;omega
   ·simp[h1,h2];omega
theorem ri0 {s:Bs} (h:cntN s 2=0):repB s=s:=by
 rw[qx0] at h
 induction s with
 | nil=>rfl
 | cons c s ih =>
  rw[List.count_cons,List.count_cons] at h
  have h1:c≠34:=by rintro rfl;simp at h
  have h2:c≠92:=by rintro rfl;simp at h
  rw[rg0,ih (by omega)]
  simp[kD0,h1,h2]
theorem rh0 (s:Bs) (i:Nat):(repB (s.take i)).length<=(repB s).length:=by
 have:repB s=repB (s.take i)++repB (s.drop i):=by
  unfold repB;rw[<- List.flatMap_append,List.take_append_drop]
 rw[this,List.length_append];omega
theorem row2 {α:Type} {A:List α} {L N:Nat} {z:α} (hA:A.length=L):List.drop (L+2) (A++List.replicate (N-L) z)=List.replicate (N-(L+2)) z:=by
 subst hA
 rw[<- List.drop_drop,List.drop_left' rfl,List.drop_replicate,Nat.sub_sub]
theorem row1 {α:Type} {L N:Nat} {a z:α} (hL:L+1<=N):(List.replicate (N-L) z).set 0 a=a::List.replicate (N-(L+1)) z:=by
 obtain⟨k,hk⟩:∃ k,N-L=k+1:=⟨N-L-1,by omega⟩
 rw[hk,List.replicate_succ,List.set_cons_zero,show N-(L+1)=k by omega]
set_option maxHeartbeats 1600000 in
theorem qu0 (s:Bs) (hs:s.length<2 ^ 39):J prog b30 [.bp (.e 0) 0,vS (bS s)] rk0 (·=.ret (vS (bS (repB s))) rk0):=by
 have hsz:(bS s).size=s.length:=rfl
 have h34:s.count 34<=s.length:=List.count_le_length
 have h92:s.count 92<=s.length:=List.count_le_length
 refine av0 dM0.alt (by simp[rk0]) ?_
 refine rS8 @dy0 @rk0.eq_1 @hpE.eq_1 @hpE.eq_2 @pP0 @nR0 @nS0 hsz ?_
 by_cases hlong:(16:Int)<=s.length
 ·refine rS3 hlong @pP0 hsz ?_
  refine aS0 2 (λi=>[(32,vI i),(31,vI 2),(30,.lst [aW0 [34],aW0 [92]]),(5,vI (s.length+cntN s i)),(6,vB (decide (cntN s i≠0))),(0,.bp (.e 0) 0),(1,vS (bS s))])
   (λi=>[(.e 0,.box (repC++[.lst [aW0 [34],aW0 [92]]]))]) (Wk.subs (by simp[cntN]) (by simp)) ?_
  intro i hi
  have hi3:i=0\/i=1\/i=2:=by omega
  rcases hi3 with rfl|rfl|rfl
  ·refine rS1 hsz ?_
   refine ak0 ?_;simp;refine ah0 (oM0 (bS s) 34) (by simp) ?_
   by_cases h0:s.count 34=0
   ·refine rS2 h0 @nR0 ?_
    refine .of (by omega) (Wk.subs (by simp[cntN,h0]) (by simp))
   ·refine rS3 h0 @nR0 @cntN0 ?_
    refine .of (by omega) (Wk.subs (by simp[cntN,h0]) (by simp))
  ·refine rS1 hsz ?_
   refine ak0 ?_;simp;refine ah0 (oM0 (bS s) 92) (by simp) ?_
   by_cases h0:s.count 92=0
   ·refine rS2 h0 @nS0 ?_
    refine .of (by omega) (Wk.subs (by simp[cntN,h0]) (by simp))
   ·refine rS3 h0 @nS0 @cntN1 ?_
    refine .of (by omega) (Wk.subs (by simp[cntN,h0];omega) (by simp))
  ·have hlen:=p40 s
   have hcn:cntN s 2<=2*s.length:=by rw[qx0];omega
   by_cases hz:cntN s 2=0
   ·have he:=ri0 hz
    refine rS3 hsz hz he ?_
    refine ay0 [] ?_
    exact rT1 he
   ·refine rS2 hsz hz ?_
    have hN:(s.length:Int)+(cntN s 2:Nat)=((repB s).length:Nat):=by omega
    refine aS0 s.length (λi=>[(14,vI i),(13,vI (repB (s.take i)).length),(12,.arr (.l 85 0) 0 (repB s).length),(0,.bp (.e 0) 0),(1,vS (bS s))])
     (λi=>[(.l 85 0,.row 5 1 true ((repB (s.take i)++List.replicate ((repB s).length-(repB (s.take i)).length) 0).map aq0)),(.e 0,.box (repC++[.lst [aW0 [34],aW0 [92]]]))])
     (Wk.subs (by simp[m70,hlen];omega) (by simp[m70,aq0,hlen];omega)) ?_
    intro i hi
    by_cases hlt:i<s.length
    ·have hlt':(i:Int)<s.length:=by omega
     have h256:(s[i].toNat:Int)<256:=by have:=s[i].toNat_lt;omega
     have htk:s.take (i+1)=s.take i++[s[i]]:=by rw[List.take_add_one,List.getElem?_eq_getElem hlt];rfl
     have hsn:=rj0 (s.take i) s[i]
     rw[<- htk] at hsn
     have hmo:=rh0 s (i+1)
     rw[hsn,List.length_append] at hmo
     by_cases h1:s[i]=92
     ·have hr:kD0 s[i]=some [92,92]:=by rw[h1];rfl
      have hv:repV s[i]=.lst [[vU 92],[vU 92]]:=by rw[h1];rfl
      rw[hr] at hsn hmo
      simp only[Option.getD_some,List.length_cons,List.length_nil] at hsn hmo
      have hcl:(List.map aq0 (repB (List.take i s))).length=(repB (List.take i s)).length:=List.length_map ..
      have hfin:=row2 (N:=(repB s).length) (z:=aq0 0) hcl
      refine rS5 hlt' hsz @g30 h256 hv ?_
      rw[hfin]
      refine⟨?_,?_,?_⟩<;>exact .of hlt (Wk.subs (by simp[hsn]) (by simp[hsn,aq0]))
     by_cases h2:s[i]=34
     ·have hr:kD0 s[i]=some [92,34]:=by rw[h2];rfl
      have hv:repV s[i]=.lst [[vU 92],[vU 34]]:=by rw[h2];rfl
      rw[hr] at hsn hmo
      simp only[Option.getD_some,List.length_cons,List.length_nil] at hsn hmo
      have hcl:(List.map aq0 (repB (List.take i s))).length=(repB (List.take i s)).length:=List.length_map ..
      have hfin:=row2 (N:=(repB s).length) (z:=aq0 0) hcl
      refine rS5 hlt' hsz @g30 h256 hv ?_
      rw[hfin]
      refine⟨?_,?_,?_⟩<;>exact .of hlt (Wk.subs (by simp[hsn]) (by simp[hsn,aq0]))
     ·have hr:kD0 s[i]=none:=by unfold kD0;rw[if_neg h1,if_neg h2]
      have hv:repV s[i]=.nil:=by unfold repV;rw[hr]
      rw[hr] at hsn hmo
      simp only[Option.getD_none,List.length_cons,List.length_nil] at hsn hmo
      have hcl:(List.map aq0 (repB (List.take i s))).length=(repB (List.take i s)).length:=List.length_map ..
      have hfin:=row1 (a:=aq0 s[i]) (z:=aq0 0) (by omega:(repB (List.take i s)).length+1<=(repB s).length)
      have hget:(List.map aq0 (repB (List.take i s))++List.replicate ((repB s).length-(repB (List.take i s)).length) (aq0 0))[(repB (List.take i s)).length]?=some (aq0 0):=by
       rw[List.getElem?_append_right (by omega),hcl,Nat.sub_self,List.getElem?_replicate]
       rw[if_pos (by omega)]
      refine rS5 hlt' hsz @g30 h256 hv ?_
      rw[aV0 hget]
      have hfin':=hfin
      unfold aq0 at hfin'
      refine rS2 @aq0.eq_1 hfin' ?_
      exact .of hlt (Wk.subs (by simp[hsn]) (by simp[hsn,aq0]))
    ·have hge':¬ (i:Int)<s.length:=by omega
     have:i=s.length:=by omega
     subst this
     refine rS2 hge' hsz ?_
     refine⟨bS (repB s),(l00 _).symm,?_⟩
     refine ay0 [] ?_
     exact rT0
 ·refine rS3 hlong @pP0 hsz ?_
  have hlen:=p40 s
  have hcn:cntN s 2<=2*s.length:=by rw[qx0];omega
  have hcs:∀ (l:Bs) (c:UInt8),cntN (l++[c]) 2=cntN l 2+if c=34\/c=92 then 1 else 0:=by
   intro l c
   rw[qx0,qx0,List.count_append,List.count_append,List.count_singleton,List.count_singleton]
   by_cases h1:c=34
   ·subst h1;simp;omega
   ·by_cases h2:c=92
    ·subst h2;simp;omega
    ·simp[h1,h2]
  have hct:∀ i,cntN (s.take i) 2<=2*s.length:=by
   intro i
   have a:(s.take i).count 34<=(s.take i).length:=List.count_le_length
   have b:(s.take i).count 92<=(s.take i).length:=List.count_le_length
   rw[List.length_take] at a b
   rw[qx0];omega
  refine aS0 s.length (λi=>[(10,vI i),(5,vI (s.length+cntN (s.take i) 2)),(6,vB (decide (cntN (s.take i) 2≠0))),(0,.bp (.e 0) 0),(1,vS (bS s))])
   (λi=>[(.e 0,.box (repC++[.lst [aW0 [34],aW0 [92]]]))]) (Wk.subs (by simp[cntN]) (by simp)) ?_
  intro i hi
  by_cases hlt:i<s.length
  ·have hlt':(i:Int)<s.length:=by omega
   have h256:(s[i].toNat:Int)<256:=by have:=s[i].toNat_lt;omega
   have htk:s.take (i+1)=s.take i++[s[i]]:=by rw[List.take_add_one,List.getElem?_eq_getElem hlt];rfl
   have hci:=hct i
   have hsn:=hcs (s.take i) s[i]
   rw[<- htk] at hsn
   by_cases h1:s[i]=92
   ·have hv:repV s[i]=.lst [[vU 92],[vU 92]]:=by rw[h1];rfl
    rw[if_pos (.inr h1)] at hsn
    refine rS5 hlt' hsz @g30 h256 hv ?_
    exact .of hlt (Wk.subs (by simp[hsn];omega) (by simp))
   by_cases h2:s[i]=34
   ·have hv:repV s[i]=.lst [[vU 92],[vU 34]]:=by rw[h2];rfl
    rw[if_pos (.inl h2)] at hsn
    refine rS5 hlt' hsz @g30 h256 hv ?_
    exact .of hlt (Wk.subs (by simp[hsn];omega) (by simp))
   ·have hv:repV s[i]=.nil:=by unfold repV kD0;rw[if_neg h1,if_neg h2]
    rw[if_neg (by rintro (h|h);exact h2 h;exact h1 h)] at hsn
    refine rS5 hlt' hsz @g30 h256 hv ?_
    exact .of hlt (Wk.subs (by simp[hsn]) (by simp))
  ·have hge':¬ (i:Int)<s.length:=by omega
   have:i=s.length:=by omega
   subst this
   have hta:cntN (List.take s.length s) 2=cntN s 2:=by rw[List.take_length]
   refine rS3 hge' hsz hta ?_
   by_cases hz:cntN s 2=0
   ·have he:=ri0 hz
    refine rS4 hsz hz he hta ?_
    refine ay0 [] ?_
    exact rT1 he
   ·refine rS3 hsz hz hta ?_
    have hN:(s.length:Int)+(cntN s 2:Nat)=((repB s).length:Nat):=by omega
    refine aS0 s.length (λi=>[(14,vI i),(13,vI (repB (s.take i)).length),(12,.arr (.l 85 0) 0 (repB s).length),(0,.bp (.e 0) 0),(1,vS (bS s))])
     (λi=>[(.l 85 0,.row 5 1 true ((repB (s.take i)++List.replicate ((repB s).length-(repB (s.take i)).length) 0).map aq0)),(.e 0,.box (repC++[.lst [aW0 [34],aW0 [92]]]))])
     (Wk.subs (by simp[m70,hlen];omega) (by simp[m70,aq0,hlen];omega)) ?_
    intro i hi
    by_cases hlt:i<s.length
    ·have hlt':(i:Int)<s.length:=by omega
     have h256:(s[i].toNat:Int)<256:=by have:=s[i].toNat_lt;omega
     have htk:s.take (i+1)=s.take i++[s[i]]:=by rw[List.take_add_one,List.getElem?_eq_getElem hlt];rfl
     have hsn:=rj0 (s.take i) s[i]
     rw[<- htk] at hsn
     have hmo:=rh0 s (i+1)
     rw[hsn,List.length_append] at hmo
     by_cases h1:s[i]=92
     ·have hr:kD0 s[i]=some [92,92]:=by rw[h1];rfl
      have hv:repV s[i]=.lst [[vU 92],[vU 92]]:=by rw[h1];rfl
      rw[hr] at hsn hmo
      simp only[Option.getD_some,List.length_cons,List.length_nil] at hsn hmo
      have hcl:(List.map aq0 (repB (List.take i s))).length=(repB (List.take i s)).length:=List.length_map ..
      have hfin:=row2 (N:=(repB s).length) (z:=aq0 0) hcl
      refine rS5 hlt' hsz @g30 h256 hv ?_
      rw[hfin]
      refine⟨?_,?_,?_⟩<;>exact .of hlt (Wk.subs (by simp[hsn]) (by simp[hsn,aq0]))
     by_cases h2:s[i]=34
     ·have hr:kD0 s[i]=some [92,34]:=by rw[h2];rfl
      have hv:repV s[i]=.lst [[vU 92],[vU 34]]:=by rw[h2];rfl
      rw[hr] at hsn hmo
      simp only[Option.getD_some,List.length_cons,List.length_nil] at hsn hmo
      have hcl:(List.map aq0 (repB (List.take i s))).length=(repB (List.take i s)).length:=List.length_map ..
      have hfin:=row2 (N:=(repB s).length) (z:=aq0 0) hcl
      refine rS5 hlt' hsz @g30 h256 hv ?_
      rw[hfin]
      refine⟨?_,?_,?_⟩<;>exact .of hlt (Wk.subs (by simp[hsn]) (by simp[hsn,aq0]))
     ·have hr:kD0 s[i]=none:=by unfold kD0;rw[if_neg h1,if_neg h2]
      have hv:repV s[i]=.nil:=by unfold repV;rw[hr]
      rw[hr] at hsn hmo
      simp only[Option.getD_none,List.length_cons,List.length_nil] at hsn hmo
      have hcl:(List.map aq0 (repB (List.take i s))).length=(repB (List.take i s)).length:=List.length_map ..
      have hfin:=row1 (a:=aq0 s[i]) (z:=aq0 0) (by omega:(repB (List.take i s)).length+1<=(repB s).length)
      have hget:(List.map aq0 (repB (List.take i s))++List.replicate ((repB s).length-(repB (List.take i s)).length) (aq0 0))[(repB (List.take i s)).length]?=some (aq0 0):=by
       rw[List.getElem?_append_right (by omega),hcl,Nat.sub_self,List.getElem?_replicate]
       rw[if_pos (by omega)]
      refine rS5 hlt' hsz @g30 h256 hv ?_
      rw[aV0 hget]
      have hfin':=hfin
      unfold aq0 at hfin'
      refine rS2 @aq0.eq_1 hfin' ?_
      exact .of hlt (Wk.subs (by simp[hsn]) (by simp[hsn,aq0]))
    ·have hge':¬ (i:Int)<s.length:=by omega
     have:i=s.length:=by omega
     subst this
     refine rS2 hge' hsz ?_
     refine⟨bS (repB s),(l00 _).symm,?_⟩
     refine ay0 [] ?_
     exact rT0
end Go.Am
end

section
namespace Go.Am
set_option maxRecDepth 100000
attribute [local irreducible] vc vcIs vcI vcOp vcD vcDp vcDR vcT vcAR cf0 bb0 panD neG ne pv J bY0 b50 ci0 bo0 evK evsK nthK objK boxK rowK bQ0 intK strK aggK fnK ifcK az0 aA0 ldK ldaK iaK srcK stK appK appD cn0 pvK bT0 a30 b40 bJ0 slAV bX0
def repS (k:Nat):List V:=(List.range 256).map λi=>if (1<=k/\i=34)\/(2<=k/\i=92) then repV (UInt8.ofNat i) else .nil
theorem repS_two:repS 2=repC:=by rfl
abbrev old4:List (List V):=[aW0 [92],aW0 [92,92],aW0 [34],aW0 [92,34]]
def a00 (st:Int) (r:V) (l:V):Ob:=.box [.c (.int .u32 0),.c (.int .i32 st),.c (.int .u32 0),r,l]
def rl0 (k:Nat):List (List V):=[aW0 [34],aW0 [92]].take k
def repH (st:Int) (k:Nat):Hp:=if k=2 then [(.l 11 0,.box (repC++[.lst [aW0 [34],aW0 [92]]])),(.e 0,a00 st (.c .nilIface) (.lst old4))]
 else [(.l 11 0,.box (repS k++[.arr (.l 999 0) 0 k])),(.l 999 0,.row 9 1 true (rl0 k)),(.e 0,a00 st (.c .nilIface) (.lst old4))]
theorem se0 (x:V) {K:V->Prop}:nthK (repS 0++[x]) 34 K=K .nil:=nQ0 (by rfl)
theorem sf0 (x:V) {K:V->Prop}:nthK (repS 1++[x]) 92 K=K .nil:=nQ0 (by rfl)
theorem p60 (k:Nat) (x:V) {K:V->Prop}:nthK (repS k++[x]) 256 K=K x:=nQ0 (by
 rw[List.getElem?_append_right (by simp[repS])];simp[repS])
theorem rY0 {i:Id} {l:List V} {x:V}:V.hasL i (l++[x])=(V.hasL i l||V.has i x):=by
 induction l with
 | nil=>simp
 | cons v l ih=>simp[ih,Bool.or_assoc]
theorem n40 (k:Nat):kN0 (repS k)=true:=by
 unfold kN0 repS
 rw[List.all_map,List.all_eq_true]
 intro i _
 show V.pD0 (if _ then _ else _)=true
 split
 ·unfold repV;split<;>rfl
 ·rfl
theorem sX0 {k:Nat} {i:Id} {x:V}:V.hasL i (repS k++[x])=V.has i x:=by rw[rY0,lv0 (n40 k)];rfl
theorem sZ0 {k:Nat} {x:V}:(repS k++[x]).length=257:=by simp[repS]
theorem sY0 (k:Nat):(repS k).length=256:=by simp[repS]
theorem kO0 {f:Id->Option Id} {x:V}:∀ {l:List V} {K:List V->Prop},kN0 l=true->dt0 f (l++[x]) K=dt0 f [x] λus=>K (l++us)
 | [],K,_=>by simp
 | v::l,K,h=>by
  rw[e60,Bool.and_eq_true] at h
  rw[List.cons_append,md0]
  simp only[hold,kO0 h.2]
  have hv:=h.1
  cases v<;>first|(simp[V.pD0] at hv;done)|simp
theorem sy0 {i:Id} {xs:List (List V)}:∀ {l:List V},kN0 l=true->l.map (V.fz i xs)=l
 | [],_=>rfl
 | v::l,h=>by
  rw[e60,Bool.and_eq_true] at h
  rw[List.map_cons,sy0 h.2]
  have hv:=h.1
  cases v<;>first|(simp[V.pD0] at hv;done)|simp[V.fz]
theorem repC_flat:kN0 repC=true:=by rw[<- repS_two];exact n40 2
theorem box1 (x y:V):List.take 34 (List.take 256 (repS 0++[x])++y::List.drop 257 (repS 0++[x]))++V.lst (bi0 (bS [92,34]))::List.drop 35 (List.take 256 (repS 0++[x])++y::List.drop 257 (repS 0++[x]))=repS 1++[y]:=by rfl
theorem box2 (x y:V):List.take 92 (List.take 256 (repS 1++[x])++y::List.drop 257 (repS 1++[x]))++V.lst (bi0 (bS [92,92]))::List.drop 93 (List.take 256 (repS 1++[x])++y::List.drop 257 (repS 1++[x]))=repC++[y]:=by rfl
theorem o4_0 {K:List V->Prop}:gE0 old4 0 K=K (aW0 [92]):=aV0 rfl
theorem o4_1 {K:List V->Prop}:gE0 old4 1 K=K (aW0 [92,92]):=aV0 rfl
theorem o4_2 {K:List V->Prop}:gE0 old4 2 K=K (aW0 [34]):=aV0 rfl
theorem o4_3 {K:List V->Prop}:gE0 old4 3 K=K (aW0 [92,34]):=aV0 rfl
set_option maxHeartbeats 3200000 in
theorem tq0 (st:Int):J prog ei0 [.bp (.e 0) 0] [a00 st (.c .nilIface) (.lst old4)] (·=.ret (.ifc 209 (.bp (.e 1) 0)) [a00 st (.c .nilIface) (.lst old4),.box (repC++[.lst [aW0 [34],aW0 [92]]])]):=by
 refine av0 hX0 (by simp[a00]) ?_
 refine rS5 @dR0.eq_1 @a00.eq_1 @hpE.eq_1 @hpE.eq_2 @bH0 ?_
 refine aS0 2 (λi=>[(5,vI (2*i)),(4,vB (decide (i=0))),(3,.lst old4),(0,.bp (.e 0) 0),(2,.c .nilIface)]) (λi=>[(.e 0,a00 st (.c .nilIface) (.lst old4))]) (Wk.subs (by simp) (by simp[a00])) ?_
 intro i hi
 have hi3:i=0\/i=1\/i=2:=by omega
 rcases hi3 with rfl|rfl|rfl
 ·refine rS7 @a00.eq_1 @bH0 @dJ0 @o4_0 @o4_1 @o4_2 @o4_3 ?_
  exact .of (by omega) (Wk.subs (by simp) (by simp))
 ·refine rS7 @a00.eq_1 @bH0 @dJ0 @o4_0 @o4_1 @o4_2 @o4_3 ?_
  exact .of (by omega) (Wk.subs (by simp) (by simp))
 ·refine rS7 @a00.eq_1 @bH0 @dJ0 @o4_0 @o4_1 @o4_2 @o4_3 ?_
  refine aS0 2 (λk=>[(12,vI (2-2*k)),(11,.bp (.l 11 0) 0),(3,.lst old4),(0,.bp (.e 0) 0),(2,.c .nilIface)]) (repH st)
   (Wk.rens (.l 94 0) (.l 999 0) rfl (by simp) (by simp[renF]) (by simp[renF,b70,repH,rl0,a00];rfl)) ?_
  intro k hk
  have hk3:k=0\/k=1\/k=2:=by omega
  rcases hk3 with rfl|rfl|rfl
  ·simp +contextual (maxSteps:=2000000) (disch:=omega) [-Int.not_lt,-Int.not_le,-Nat.not_lt,-Nat.not_le,sx,repH,a00,dJ0,o4_0,o4_1,o4_2,o4_3,se0,sf0,p60,rl0,sX0,sZ0]
   refine⟨bS [34],rfl,by simp[sY0],by simp[sY0],?_⟩
   rw[box1]
   refine .of (by omega) (Wk.rens (.l 124 0) (.l 999 0) rfl (by simp) (by simp[renF]) (by simp[renF,b70,repH,rl0,a00,kO0 (n40 1)]))
  ·simp +contextual (maxSteps:=2000000) (disch:=omega) [-Int.not_lt,-Int.not_le,-Nat.not_lt,-Nat.not_le,sx,repH,a00,dJ0,o4_0,o4_1,o4_2,o4_3,se0,sf0,p60,rl0,sX0,sZ0]
   refine⟨bS [92],rfl,by simp[sY0],by simp[sY0],?_⟩
   rw[box2]
   refine .of (by omega) (Wk.frz (.l 124 0) rfl (by simp[V.fz]) ?_)
   simp[repH,Ob.fz,V.fz,a00,sy0 repC_flat]
  ·refine rS10 @repH.eq_1 @a00.eq_1 @dJ0 @o4_0 @o4_1 @o4_2 @o4_3 @se0 @sf0 @p60 ?_
   refine ay0 [.l 11 0] ?_
   exact rT0
end Go.Am
end

section
namespace Go.Am
variable {P:Program} {H:Imm} {μ:Mu} {w w' w'':World}
theorem dv0 {b j:Nat} {x:Value} {cs:Array Value} {ty:TypeId} {fz:Nat × Nat} (h:w.heap[b]?=some (.cells cs ty fz)) :
  (w.setCell ⟨b,j,none⟩ x).heap[b]?=some (.cells (cs.setIfInBounds j x) ty fz):=by
 simp[World.setCell,Array.getElem?_modify,h]
theorem jQ0 {b b' j:Nat} {x:Value} (h:b'≠b):(w.setCell ⟨b,j,none⟩ x).heap[b']?=w.heap[b']?:=by
 have h':¬ b=b':=λe=>h e.symm
 simp[World.setCell,Array.getElem?_modify,h']
theorem lY0 {b j:Nat} {cs:Array Value} {ty:TypeId} (h:w.heap[b]?=some (.cells cs ty (0,0))):w.frozen? ⟨b,j,none⟩=false:=by
 simp[World.frozen?,h]
structure Chg (b:Nat) (w w':World):Prop where
 os:w'.os=w.os
 tape:w'.tape=w.tape
 output:w'.output=w.output
 size:w'.heap.size=w.heap.size
 keep:∀ b',b'≠b->w'.heap[b']?=w.heap[b']?
theorem Chg.refl (b:Nat) (w:World):Chg b w w:=⟨rfl,rfl,rfl,rfl,λ_ _=>rfl⟩
theorem Chg.trans {b:Nat} (h:Chg b w w') (k:Chg b w' w''):Chg b w w'' :=
 ⟨k.os.trans h.os,k.tape.trans h.tape,k.output.trans h.output,k.size.trans h.size,λb' hb=>(k.keep b' hb).trans (h.keep b' hb)⟩
theorem Chg.set (b j:Nat) (x:Value) (w:World):Chg b w (w.setCell ⟨b,j,none⟩ x) :=
 ⟨rfl,rfl,rfl,by simp,λb' hb=>jQ0 hb⟩
theorem Chg.drew (b:Nat) (w:World):Chg b w w.drew:=⟨rfl,rfl,rfl,rfl,λ_ _=>rfl⟩
theorem ObOk.chg {b:Nat} {i:Id} {o:Ob} (h:ObOk H μ w i o) (hc:Chg b w w') (hb:∀ blk,μ i=some blk->o.own=true->blk.b≠b) (hI:H b=none):ObOk H μ w' i o:=by
 cases o with
 | gone=>trivial
 | box cs =>
  obtain⟨blk,vals,ty,h1,h2,h3⟩:=h
  exact⟨blk,vals,ty,h1,(hc.keep _ (hb _ h1 rfl)).trans h2,h3⟩
 | row ty sz own xs =>
  rcases h with h|⟨blk,vals,h1,h2,h3,h4,h5,h6,h7,h8,h9⟩
  ·exact .inl h
  ·refine .inr ⟨blk,vals,h1,h2,(hc.keep _ ?_).trans h3,h4,h5,h6,h7,h8,h9⟩
   cases own with
   | true=>exact hb _ h1 rfl
   | false=>intro e;have:=h8 rfl;rw[e,hI] at this;cases this
 | mpo kd kvs =>
  obtain⟨blk,es,clk,h1,h2,h3⟩:=h
  exact⟨blk,es,clk,h1,(hc.keep _ (hb _ h1 rfl)).trans h2,h3⟩
theorem Wd.poke {cs:List V} {blk:Blk} {vals:Array Value} {ty:TypeId} {j:Nat} {v:V} {x:Value} (hW:Wd H μ (hpE 0 [.box cs]) w) (hμ:μ (.e 0)=some blk)
  (hb:w.heap[blk.b]?=some (.cells vals ty (0,0))) (hj:j<vals.size) (hx:R H μ v x):Wd H μ (hpE 0 [.box (cs.set j v)]) (w.setCell ⟨blk.b,j,none⟩ x):=by
 obtain⟨blk',vals',ty',h1,h2,h3,h4,h5⟩:=hW.ob (.e 0) _ rfl
 rw[hμ] at h1;injection h1 with h1;subst h1
 rw[hb] at h2;injection h2 with h2;injection h2 with e1 e2 e3;subst e1;subst e2
 refine⟨λi o hl=>?_,λi k oi ok bi bk hi _ hk _ _ _ _=>?_,λb c h=>?_,hW.glo⟩
 ·have hi:i=.e 0/\o=.box (cs.set j v):=by
   simp only[hpE,List.lookup_cons] at hl
   split at hl
   ·rename_i h;injection hl with hl;exact⟨by simpa using h,hl.symm⟩
   ·simp at hl
  obtain⟨rfl,rfl⟩:=hi
  refine⟨blk,vals.setIfInBounds j x,ty,hμ,dv0 hb,by simp[h3],h4,λk u hk=>?_⟩
  rw[List.getElem?_set] at hk
  split at hk
  ·rename_i e;subst e
   split at hk
   ·injection hk with hk;subst hk
    exact⟨x,by simp[Array.getElem?_setIfInBounds,hj],hx⟩
   ·cases hk
  ·rename_i e
   obtain⟨y,y1,y2⟩:=h5 k u hk
   exact⟨y,by rw[Array.getElem?_setIfInBounds];simpa[e] using y1,y2⟩
 ·have hi':i=.e 0:=by
   simp only[hpE,List.lookup_cons] at hi
   split at hi
   ·rename_i h;simpa using h
   ·simp at hi
  have hk':k=.e 0:=by
   simp only[hpE,List.lookup_cons] at hk
   split at hk
   ·rename_i h;simpa using h
   ·simp at hk
  rw[hi',hk']
 ·obtain⟨t,fz,e⟩:=hW.imm b c h
  have hne:b≠blk.b:=λe=>by rw[e,h4.1] at h;cases h
  exact⟨t,fz,(jQ0 hne).trans e⟩
theorem Wd.second {o:Ob} {cs:List V} {blk:Blk} (hW:Wd H μ (hpE 0 [o,.box cs]) w) (ho:o.own=true) (hμ:μ (.e 0)=some blk) (hI:H blk.b=none) (hc:Chg blk.b w w')
  (hcs:∀ i v,v∈cs->v.has i=false):∃ blk',μ (.e 1)=some blk'/\blk'.b≠blk.b/\Wd H (λi=>if i=.e 0 then some blk' else μ i) (hpE 0 [.box cs]) w':=by
 obtain⟨blk',vals,ty,h1,h2,h3,h4,h5⟩:=hW.ob (.e 1) (.box cs) (by simp[hpE,List.lookup_cons];rfl)
 have hne:blk'.b≠blk.b:=λe=>by
  have:=hW.inj (.e 1) (.e 0) (.box cs) o blk' blk (by simp[hpE,List.lookup_cons];rfl) rfl rfl ho h1 hμ e
  simp at this
 refine⟨blk',h1,hne,λi o' hl=>?_,λi k oi ok bi bk hi _ hk _ _ _ _=>?_,λb c h=>?_,hW.glo⟩
 ·have hi:i=.e 0/\o'=.box cs:=by
   simp only[hpE,List.lookup_cons] at hl
   split at hl
   ·rename_i h;injection hl with hl;exact⟨by simpa using h,hl.symm⟩
   ·simp at hl
  obtain⟨rfl,rfl⟩:=hi
  refine⟨blk',vals,ty,by simp,(hc.keep _ hne).trans h2,h3,h4,λk u hk=>?_⟩
  obtain⟨y,y1,y2⟩:=h5 k u hk
  exact⟨y,y1,y2.mono (Imm.le_refl H) λi hi=>by rw[hcs i u (List.mem_of_getElem? hk)] at hi;cases hi⟩
 ·have hi':i=.e 0:=by
   simp only[hpE,List.lookup_cons] at hi
   split at hi
   ·rename_i h;simpa using h
   ·simp at hi
  have hk':k=.e 0:=by
   simp only[hpE,List.lookup_cons] at hk
   split at hk
   ·rename_i h;simpa using h
   ·simp at hk
  rw[hi',hk']
 ·obtain⟨t,fz,e⟩:=hW.imm b c h
  have hne:b≠blk.b:=λe=>by rw[e,hI] at h;cases h
  exact⟨t,fz,(hc.keep _ hne).trans e⟩
end Go.Am
end

section
namespace Go.Am
set_option maxRecDepth 100000
theorem re0 (w:World):(callFunc 167 #[]).run Go.Proofs.Tryz.prog w=.ok (.value (.tuple #[])) w:=run_call_mark0 Go.Proofs.Tryz.func167 (by kernel_rfl) (by kernel_rfl) (by kernel_rfl) .disable (by kernel_rfl) w
theorem sW0 (w:World):(callFunc 169 #[]).run Go.Proofs.Tryz.prog w=.ok (.value (.tuple #[])) w:=run_call_mark0 Go.Proofs.Tryz.func169 (by kernel_rfl) (by kernel_rfl) (by kernel_rfl) .enable (by kernel_rfl) w
theorem q_acquire (a:Addr) (w:World):(callFunc 170 #[.pointer (some a)]).run Go.Proofs.Tryz.prog w=.ok (.value (.tuple #[])) w:=run_call_marked Go.Proofs.Tryz.func170 (by kernel_rfl) (by kernel_rfl) (by kernel_rfl) .acquire (by kernel_rfl) a w
theorem oH0 (a:Addr) (w:World):(callFunc 172 #[.pointer (some a)]).run Go.Proofs.Tryz.prog w=.ok (.value (.tuple #[])) w:=run_call_marked Go.Proofs.Tryz.func172 (by kernel_rfl) (by kernel_rfl) (by kernel_rfl) .releaseMerge (by kernel_rfl) a w
theorem mU0 (a:Addr) (x:Value) (u:FrameMode) (w:World) (hc:w.cell? a=some x) (hz:w.frozen? a=false) :
  CallsD Go.Proofs.Tryz.prog 156 #[.pointer (some a),.bool true] u w λe u' w'=>u'=u/\(e=.returned (.tuple #[])/\w'=w.drew.setCell a (.int .u32 1)):=by
 have hc':w.drew.cell? a=some x:=by go_simp
 have hz':w.drew.frozen? a=false:=by go_simp
 have hst:=run_call_store (P:=Go.Proofs.Tryz.prog) Go.Proofs.Tryz.func163 (by kernel_rfl) (by kernel_rfl) (by kernel_rfl) (by kernel_rfl) (k:=.u32) (y:=1) hc' hz'
 go_enter_d Go.Proofs.Tryz.func156,Go.Proofs.Tryz.ntmps156
 go_wp2
 go_region_calls
 all_goals (go_end0;exact⟨rfl,rfl⟩)
theorem mg0 (a:Addr) (u:FrameMode) (w:World) (hc:w.cell? a=some (.int .i32 1)) (hz:w.frozen? a=false) :
  CallsD Go.Proofs.Tryz.prog 155 #[.pointer (some a)] u w λe u' w'=>u'=u/\(e=.returned (.tuple #[])/\w'=w.setCell a (.int .i32 0)):=by
 have hd:=re0
 have he:=sW0
 have hr:=oH0
 have hadd:=run_call_add (P:=Go.Proofs.Tryz.prog) Go.Proofs.Tryz.func173 (by kernel_rfl) (by kernel_rfl) (by kernel_rfl) .i32 (by kernel_rfl) (y:=-1) (s:=0) hc hz (by simp[go_sem];rfl)
 have hcv:=run_convert_to_unsafe (P:=Go.Proofs.Tryz.prog) (src:=225) (dst:=125) Go.Proofs.Tryz.underlying225 Go.Proofs.Tryz.underlying125 (by kernel_rfl) hc
 go_enter_d Go.Proofs.Tryz.func155,Go.Proofs.Tryz.ntmps155
 go_wp2
 go_end0
 go_wp2
 go_end0
 exact⟨rfl,rfl⟩
theorem sc0 (a:Addr) (w:World) (hc:w.cell? a=some (.int .i32 0)) (hz:w.frozen? a=false) :
  Calls Go.Proofs.Tryz.prog 154 #[.pointer (some a)] w λe w'=>e=.returned (.tuple #[])/\w'=w.setCell a (.int .i32 1):=by
 have hd:=re0
 have he:=sW0
 have ha:=q_acquire
 have hcas:=run_call_cas_hit (P:=Go.Proofs.Tryz.prog) Go.Proofs.Tryz.func168 (by kernel_rfl) (by kernel_rfl) (by kernel_rfl) .i32 (by kernel_rfl) (y:=1) hc hz
 have hc':(w.setCell a (.int .i32 1)).cell? a=some (.int .i32 1):=World.cell?_setCell_same w a _ hc
 have hcv:=run_convert_to_unsafe (P:=Go.Proofs.Tryz.prog) (src:=225) (dst:=125) Go.Proofs.Tryz.underlying225 Go.Proofs.Tryz.underlying125 (by kernel_rfl) hc'
 go_enter Go.Proofs.Tryz.func154,Go.Proofs.Tryz.ntmps154
 go_wp2
 first|go_end0|(simp only[Exit.inBlock,Exit.then];refine bodyPost_ret (results_none rfl _ _ _) rfl ?_)|refine bodyPost_ret (results_none rfl _ _ _) rfl ?_
 go_wp2
 go_end0
 exact⟨rfl,rfl⟩
end Go.Am
end

section
namespace Go.Am
set_option maxRecDepth 100000
theorem J.called {f:FuncId} {fn:Func} {c:Code} {args:List V} {obs:List Ob} {Q:Res->Prop} (hf:prog.funcs[f]?=some fn) (hn:(fn.name == "runtime.NumGoroutine")=false) (hb:fn.body=some c) (h:J prog f args obs Q)
  {H:Imm} {μ:Mu} {us:Array Value} {w:World} (h3:RL H μ args us) (hW:Wd H μ (hpE 0 obs) w) :
  Calls prog f us w λe w'=>∃ r H' μ',Q r/\JP H μ obs.length (hpE 0 obs) w r e H' μ' w':=by
 have hn':¬ fn.name = "runtime.NumGoroutine":=by simpa using hn
 have hrun:(callFunc f us).run prog w=.ok (.enter f us) w:=by simp[callFunc,hf,hn',hb]
 have hc:=h H μ us w h3 hW
 unfold ed0 at hc
 rw[hrun] at hc
 exact hc
theorem RL_one {H:Imm} {μ:Mu} {v:V} {x:Value} (h:R H μ v x):RL H μ [v] #[x]:=⟨rfl,λj u hj=>by
 match j,hj with
 | 0,hj=>injection hj with hj;subst hj;exact h
 | j+1,hj=>simp at hj⟩
theorem RL_two {H:Imm} {μ:Mu} {v u:V} {x y:Value} (h:R H μ v x) (k:R H μ u y):RL H μ [v,u] #[x,y]:=⟨rfl,λj z hj=>by
 match j,hj with
 | 0,hj=>injection hj with hj;subst hj;exact h
 | 1,hj=>injection hj with hj;subst hj;exact k
 | j+2,hj=>simp at hj⟩
abbrev hN0:Ob:=a00 1 (.c .nilIface) (.lst old4)
abbrev repBox:List V:=repC++[.lst [aW0 [34],aW0 [92]]]
structure tf0 (H:Imm) (μ:Mu) (b:Nat) (w w2:World) (p:Nat):Prop where
 nj:∃ H' μ' blk blk',Nj H μ (hpE 0 [hN0]) w H' μ' (hpE 0 [hN0,.box repBox]) w2/\Wd H' μ' (hpE 0 [hN0,.box repBox]) w2/\μ' (.e 0)=some blk/\blk.b=b/\μ' (.e 1)=some blk'/\blk'.b=p
 cells:∃ x0 x1 x2 x3 x4 ty,w2.heap[b]?=some (.cells #[x0,x1,x2,x3,x4] ty (0,0))/\x0=.int .u32 0/\x1=.int .i32 1
theorem box5 {H:Imm} {μ:Mu} {w:World} {st:Int} {r l:V} {hp:Hp} (hl:hp.lookup (.e 0)=some (a00 st r l)) (hW:Wd H μ hp w) :
  ∃ blk x3 x4,μ (.e 0)=some blk/\H blk.b=none/\R H μ r x3/\R H μ l x4/\w.heap[blk.b]?=some (.cells #[.int .u32 0,.int .i32 st,.int .u32 0,x3,x4] blk.cap (0,0)):=by
 obtain⟨blk,vals,ty,h1,h2,h3,⟨h4,h4'⟩,h5⟩:=hW.ob (.e 0) _ hl
 subst h4'
 obtain⟨y0,a0,r0⟩:=h5 0 _ rfl
 obtain⟨y1,a1,r1⟩:=h5 1 _ rfl
 obtain⟨y2,a2,r2⟩:=h5 2 _ rfl
 obtain⟨y3,a3,r3⟩:=h5 3 _ rfl
 obtain⟨y4,a4,r4⟩:=h5 4 _ rfl
 cases r0;cases r1;cases r2
 refine⟨blk,y3,y4,h1,h4,r3,r4,?_⟩
 rw[h2]
 congr 2
 have hs:vals.size=5:=h3
 apply Array.ext
 ·simpa using hs
 ·intro i h1 h2
  have h3:i<5:=by omega
  rw[<- Option.some_inj,<- Array.getElem?_eq_getElem]
  match i,h3 with
  | 0,_=>simpa using a0
  | 1,_=>simpa using a1
  | 2,_=>simpa using a2
  | 3,_=>simpa using a3
  | 4,_=>simpa using a4
theorem rM0 {H:Imm} {μ:Mu} {w:World} {b:Nat} {blk:Blk} (hW:Wd H μ (hpE 0 [hN0]) w) (hμ:μ (.e 0)=some blk) (hb:blk.b=b) :
  Calls Go.Proofs.Tryz.prog 150 #[.pointer (some ⟨b,0,none⟩)] w λe w2=>∃ p,e=.returned (.iface 209 (.pointer (some ⟨p,0,none⟩)))/\tf0 H μ b w w2 p:=by
 obtain⟨c,hc⟩:∃ c,Go.Proofs.Tryz.f150.body=some c:=⟨_,rfl⟩
 subst hb
 refine Calls.mono (J.called Go.Proofs.Tryz.func150 (by kernel_rfl) hc (tq0 1) (RL_one (.bp (.e 0) 0 blk hμ)) hW) ?_
 rintro e w2 ⟨r,H',μ',rfl,⟨x,rfl,hx⟩,hN,hW',_,hk⟩
 cases hx with
 | ifc _ _ y hy =>
 cases hy with
 | bp _ _ blk' h' =>
 have hk0:μ' (.e 0)=some blk:=(hk 0 hN0 (by simp) rfl (by simp[a00])).trans hμ
 obtain⟨blk0,x3,x4,e0,_,_,_,e1⟩:=box5 (st:=1) rfl hW'
 rw[hk0] at e0;injection e0 with e0;subst e0
 exact⟨_,rfl,⟨H',μ',blk,blk',hN,hW',hk0,rfl,h',rfl⟩,_,_,_,_,_,_,e1,rfl,rfl⟩
theorem pw0 {w:World} {b j:Nat} {cs:Array Value} {ty:TypeId} {x:Value} (h:w.heap[b]?=some (.cells cs ty (0,0))) (hx:cs[j]?=some x):w.cell? ⟨b,j,none⟩=some x:=by rw[if0 h,hx]
abbrev j60 (w2:World) (b p:Nat):World:=(w2.setCell ⟨b,3,none⟩ (.iface 209 (.pointer (some ⟨p,0,none⟩)))).setCell ⟨b,4,none⟩ (.slice none 0 0)
set_option maxHeartbeats 1600000 in
theorem np0 {H:Imm} {μ:Mu} {w:World} {b:Nat} {blk:Blk} (hW:Wd H μ (hpE 0 [hN0]) w) (hμ:μ (.e 0)=some blk) (hb:blk.b=b) :
  Calls Go.Proofs.Tryz.prog 141 #[.pointer (some ⟨b,0,none⟩)] w λe w'=>e=.returned (.tuple #[])/\∃ w2 p,w'=j60 w2 b p/\tf0 H μ b w w2 p:=by
 go_enter Go.Proofs.Tryz.func141,Go.Proofs.Tryz.ntmps141
 go_wp2_with (go_at_call 150;refine (rM0 hW hμ hb).mono ?_;rintro e w2 ⟨p,rfl,hB⟩;obtain⟨x0,x1,x2,x3,x4,ty,e1,-,-⟩:=hB.cells;have c3:=pw0 (j:=3) e1 rfl;have c4:=pw0 (j:=4) e1 rfl;have f3:=lY0 (j:=3) e1;have f4:=lY0 (j:=4) e1)
 go_end0
 exact⟨rfl,_,_,rfl,hB⟩
abbrev m30 (w2:World) (b p:Nat):World:=((j60 w2 b p).drew.setCell ⟨b,0,none⟩ (.int .u32 1)).setCell ⟨b,1,none⟩ (.int .i32 0)
theorem qQ0 {w2:World} {b p:Nat} {x0 x1 x2 x3 x4:Value} {ty:TypeId} (h:w2.heap[b]?=some (.cells #[x0,x1,x2,x3,x4] ty (0,0))) :
  (j60 w2 b p).heap[b]?=some (.cells #[x0,x1,x2,.iface 209 (.pointer (some ⟨p,0,none⟩)),.slice none 0 0] ty (0,0)):=by
 have h1:=dv0 (j:=3) (x:=.iface 209 (.pointer (some ⟨p,0,none⟩))) h
 have h2:=dv0 (j:=4) (x:=.slice none 0 0) h1
 simpa using h2
theorem done_heap {w2:World} {b p:Nat} {x0 x1 x2 x3 x4:Value} {ty:TypeId} (h:w2.heap[b]?=some (.cells #[x0,x1,x2,x3,x4] ty (0,0))) :
  (m30 w2 b p).heap[b]?=some (.cells #[.int .u32 1,.int .i32 0,x2,.iface 209 (.pointer (some ⟨p,0,none⟩)),.slice none 0 0] ty (0,0)):=by
 have h0:(j60 w2 b p).drew.heap[b]?=_:=qQ0 (p:=p) h
 have h1:=dv0 (j:=0) (x:=.int .u32 1) h0
 have h2:=dv0 (j:=1) (x:=.int .i32 0) h1
 simpa using h2
theorem done_chg (w2:World) (b p:Nat):Chg b w2 (m30 w2 b p) :=
 (((((Chg.set b 3 _ w2).trans (Chg.set b 4 _ _)).trans (Chg.drew b _)).trans (Chg.set b 0 _ _))).trans (Chg.set b 1 _ _)
theorem Wd.locked {H:Imm} {μ:Mu} {w:World} {blk:Blk} (hW:Wd H μ (hpE 0 [a00 0 (.c .nilIface) (.lst old4)]) w) (hμ:μ (.e 0)=some blk):Wd H μ (hpE 0 [hN0]) (w.setCell ⟨blk.b,1,none⟩ (.int .i32 1)):=by
 obtain⟨blk0,x3,x4,e0,hI,r3,r4,hB⟩:=box5 (st:=0) rfl hW
 rw[hμ] at e0;injection e0 with e0;subst e0
 exact Wd.poke (j:=1) (v:=.c (.int .i32 1)) hW hμ hB (by simp) (.c _)
set_option maxHeartbeats 1600000 in
theorem ub0 {H:Imm} {μ:Mu} {w:World} {b:Nat} {blk:Blk} (hW:Wd H μ (hpE 0 [a00 0 (.c .nilIface) (.lst old4)]) w) (hμ:μ (.e 0)=some blk) (hb:blk.b=b) :
  Calls Go.Proofs.Tryz.prog 149 #[.pointer (some ⟨b,0,none⟩),.func (.func 141) #[.pointer (some ⟨b,0,none⟩)] #[]] w λe w' =>
   e=.returned (.tuple #[])/\∃ w2 p,w'=m30 w2 b p/\tf0 H μ b (w.setCell ⟨b,1,none⟩ (.int .i32 1)) w2 p:=by
 obtain⟨blk0,x3,x4,e0,hI,r3,r4,hB⟩:=box5 (st:=0) rfl hW
 rw[hμ] at e0;injection e0 with e0;subst e0
 have hW1:=Wd.locked hW hμ
 subst hb
 have c0:=pw0 (j:=0) hB rfl
 have c1:=pw0 (j:=1) hB rfl
 have f1:=lY0 (j:=1) hB
 have hB1:(w.setCell ⟨blk.b,1,none⟩ (.int .i32 1)).heap[blk.b]?=some (.cells #[.int .u32 0,.int .i32 1,.int .u32 0,x3,x4] blk.cap (0,0)):=by
  have:=dv0 (j:=1) (x:=.int .i32 1) hB
  simpa using this
 have hl:=run_call_load (P:=Go.Proofs.Tryz.prog) Go.Proofs.Tryz.func153 (by kernel_rfl) (by kernel_rfl) (by kernel_rfl) .u32 (by kernel_rfl) (w:=w.setCell ⟨blk.b,1,none⟩ (.int .i32 1)) (a:=⟨blk.b,0,none⟩) (x:=0) (pw0 (j:=0) hB1 rfl)
 have hnot:∀ (x:Bool) (w:World),(Op.unary .not (.bool x)).run Go.Proofs.Tryz.prog w=.ok (.bool (!x)) w:=λ_ _=>rfl
 go_enter_defers Go.Proofs.Tryz.func149,Go.Proofs.Tryz.ntmps149
 go_wp2_with (go_at_call 154;refine (sc0 ⟨blk.b,1,none⟩ _ c1 f1).mono ?_;rintro e w' ⟨rfl,rfl⟩)
 go_wp2_with (first|(go_at_call 141;refine (np0 hW1 hμ rfl).mono ?_;rintro e w' ⟨rfl,w2,p,rfl,hB2⟩)|(go_at_call 148;go_in))
 obtain⟨x0,x1,x2,y3,y4,ty,e1,rfl,rfl⟩:=hB2.cells
 have e3:=qQ0 (p:=p) e1
 refine leaves_cons (f:=156) (args:=#[.pointer (some ⟨blk.b,0,none⟩),.bool true]) (by simp) (by simp[go_sem]) ?_
 refine (mU0 ⟨blk.b,0,none⟩ (.int .u32 0) .returning _ (pw0 (j:=0) e3 rfl) (lY0 e3)).mono ?_
 rintro e u' w'' ⟨rfl,rfl,rfl⟩
 have e4:((j60 w2 blk.b p).drew.setCell ⟨blk.b,0,none⟩ (.int .u32 1)).heap[blk.b]?=_:=dv0 (w:=(j60 w2 blk.b p).drew) (j:=0) (x:=.int .u32 1) e3
 refine leaves_cons (f:=155) (args:=#[.pointer (some ⟨blk.b,1,none⟩)]) (by simp[settle]) (by simp[go_sem]) ?_
 refine (mg0 ⟨blk.b,1,none⟩ _ _ (pw0 (j:=1) e4 rfl) (lY0 e4)).mono ?_
 rintro e u' w'' ⟨rfl,rfl,rfl⟩
 simp[Leaves,settle,results,Go.Proofs.Tryz.results149]
 exact⟨_,_,rfl,hB2⟩
set_option maxHeartbeats 1600000 in
theorem do_calls {H:Imm} {μ:Mu} {w:World} {b:Nat} {blk:Blk} (hW:Wd H μ (hpE 0 [a00 0 (.c .nilIface) (.lst old4)]) w) (hμ:μ (.e 0)=some blk) (hb:blk.b=b) :
  Calls Go.Proofs.Tryz.prog 140 #[.pointer (some ⟨b,0,none⟩),.func (.func 141) #[.pointer (some ⟨b,0,none⟩)] #[]] w λe w' =>
   e=.returned (.tuple #[])/\∃ w2 p,w'=m30 w2 b p/\tf0 H μ b (w.setCell ⟨b,1,none⟩ (.int .i32 1)) w2 p:=by
 obtain⟨blk0,x3,x4,e0,hI,r3,r4,hB⟩:=box5 (st:=0) rfl hW
 rw[hμ] at e0;injection e0 with e0;subst e0
 subst hb
 have hl:=run_call_load (P:=Go.Proofs.Tryz.prog) Go.Proofs.Tryz.func153 (by kernel_rfl) (by kernel_rfl) (by kernel_rfl) .u32 (by kernel_rfl) (w:=w) (a:=⟨blk.b,0,none⟩) (x:=0) (pw0 (j:=0) hB rfl)
 have hnot:∀ (x:Bool) (w:World),(Op.unary .not (.bool x)).run Go.Proofs.Tryz.prog w=.ok (.bool (!x)) w:=λ_ _=>rfl
 go_enter Go.Proofs.Tryz.func140,Go.Proofs.Tryz.ntmps140
 go_wp2_with (first|(go_at_call 149;refine (ub0 hW hμ rfl).mono ?_;rintro e w' ⟨rfl,w2,p,rfl,hB2⟩)|(go_at_call 148;go_in))
 go_end0
 exact⟨rfl,_,_,rfl,hB2⟩
theorem tf0.rest {H:Imm} {μ:Mu} {w w1 w2 w3:World} {b p:Nat} {o:Ob} (h:tf0 H μ b w1 w2 p) (hm:μ (.e 0)≠none) (h1:Chg b w w1) (h3:Chg b w2 w3) (hb:∀ b',Owns (hpE 0 [hN0]) μ b'->b'=b) (ho:Owns (hpE 0 [o]) μ b) :
  ∃ H' μ' blk',Nj H μ (hpE 0 [o]) w H' μ' (hpE 0 [.gone]) w3/\Wd H' μ' (hpE 0 rk0) w3/\μ' (.e 0)=some blk'/\blk'.b=p/\(p<w.heap.size->False):=by
 obtain⟨⟨H',μ',blk,blk',hN,hW,m0,e0,m1,e1⟩,_⟩:=h
 subst e0;subst e1
 obtain⟨blk0,x3,x4,q0,hI,_,_,_⟩:=box5 (st:=1) rfl hW
 rw[m0] at q0;injection q0 with q0;subst q0
 obtain⟨blk1,k1,k2,k3⟩:=Wd.second hW rfl m0 hI h3 λi v hv=>(by
  have:=lv0 (kc0 [aW0 [34],aW0 [92]]) i
  rw[<- Bool.not_eq_true]
  intro hh
  obtain⟨j,hj⟩:=List.getElem?_of_mem hv
  have:=V.hL0 hj hh
  rw[lv0 (kc0 _) i] at this
  cases this)
 rw[m1] at k1;injection k1 with k1;subst k1
 have hfr:¬ blk'.b<w.heap.size:=λhlt=>by
  have:=hN.own blk'.b ⟨.e 1,.box repBox,blk',rfl,rfl,m1,rfl⟩ (by rw[h1.size];exact hlt)
  exact k2 (hb _ this)
 refine⟨H',_,blk',⟨hN.imm,h3.os.trans (hN.os.trans h1.os),h3.tape.trans (hN.tape.trans h1.tape),h3.output.trans (hN.output.trans h1.output),?_,λb' hlt hno=>?_,λb' hh=>?_,λb' cs g1 g2=>?_⟩,k3,by simp,rfl,hfr⟩
 ·rw[h3.size,<- h1.size];exact hN.size
 ·have hne:b'≠blk.b:=λe=>hno (by rw[e];exact ho)
  rw[h3.keep b' hne,hN.keep b' (by rw[h1.size];exact hlt) (λhh=>hne (hb _ hh)),h1.keep b' hne]
 ·obtain⟨i,ob,bk,g1,g2,_⟩:=hh
  simp only[hpE,List.lookup_cons] at g1
  split at g1
  ·injection g1 with g1;subst g1;cases g2
  ·simp at g1
 ·rcases hN.fresh b' cs g1 g2 with g3|g3
  ·exact .inl (by rw[<- h1.size];exact g3)
  ·exact .inr (by rw[hb _ g3];exact ho)
theorem owns_one {o:Ob} {μ:Mu} {b:Nat} {blk:Blk} (ho:o.own=true) (hμ:μ (.e 0)=some blk) (hb:blk.b=b):Owns (hpE 0 [o]) μ b:=⟨.e 0,o,blk,rfl,ho,hμ,hb⟩
theorem nU0 {o:Ob} {μ:Mu} {b:Nat} {blk:Blk} (hμ:μ (.e 0)=some blk) (h:Owns (hpE 0 [o]) μ b):b=blk.b:=by
 obtain⟨i,ob,bk,g1,_,g2,g3⟩:=h
 simp only[hpE,List.lookup_cons] at g1
 split at g1
 ·rename_i hi
  have:i=.e 0:=by simpa using hi
  subst this
  rw[hμ] at g2;injection g2 with g2;subst g2
  exact g3.symm
 ·simp at g1
theorem owns_gone {μ:Mu} {b:Nat}:¬ Owns (hpE 0 [.gone]) μ b:=by
 rintro⟨i,ob,bk,g1,g2,_⟩
 simp only[hpE,List.lookup_cons] at g1
 split at g1
 ·injection g1 with g1;subst g1;cases g2
 ·simp at g1
theorem Nj.then {H H' H5:Imm} {μ μ' μ5:Mu} {w w3 w5:World} {o r:Ob} {blk':Blk} (h:Nj H μ (hpE 0 [o]) w H' μ' (hpE 0 [.gone]) w3) (hm:μ' (.e 0)=some blk') (hf:¬ blk'.b<w.heap.size)
  (k:Nj H' μ' (hpE 0 [r]) w3 H5 μ5 (hpE 0 [r]) w5):Nj H μ (hpE 0 [o]) w H5 μ5 (hpE 0 [.gone]) w5:=by
 refine⟨Imm.le_trans h.imm k.imm,k.os.trans h.os,k.tape.trans h.tape,k.output.trans h.output,Nat.le_trans h.size k.size,λb' hlt hno=>?_,λb' hh=>absurd hh owns_gone,λb' cs g1 g2=>?_⟩
 ·rw[k.keep b' (Nat.lt_of_lt_of_le hlt h.size) (λhh=>hf (by rw[<- nU0 hm hh];exact hlt)),h.keep b' hlt hno]
 ·cases h1:H' b' with
  | some c=>exact h.fresh b' c h1 g2
  | none =>
   rcases k.fresh b' cs g1 h1 with g3|g3
   ·exact .inl (Nat.le_trans h.size g3)
   ·rw[nU0 hm g3];exact .inl (Nat.le_of_not_lt hf)
theorem Wd.gone {H:Imm} {μ:Mu} {hp:Hp} {w:World} (h:Wd H μ hp w):Wd H μ (hpE 0 [.gone]) w:=by
 refine⟨λi o hl=>?_,λi j oi oj bi bj hi ho=>?_,h.imm,h.glo⟩
 ·simp only[hpE,List.lookup_cons] at hl
  split at hl
  ·injection hl with hl;subst hl;trivial
  ·simp at hl
 ·simp only[hpE,List.lookup_cons] at hi
  split at hi
  ·injection hi with hi;subst hi;cases ho
  ·simp at hi
theorem q_method (a:Addr) (W:World):Sem.run Go.Proofs.Tryz.prog (method 365 209 (.pointer (some a)) "Replace") W=.ok (208,.pointer (some a)) W:=by kernel_rfl
set_option maxHeartbeats 1600000 in
theorem pl0 (s:Bs) (hs:s.length<2 ^ 39) {H:Imm} {μ:Mu} {w:World} {blk:Blk} (hW:Wd H μ (hpE 0 [a00 0 (.c .nilIface) (.lst old4)]) w) (hμ:μ (.e 0)=some blk) :
  Calls Go.Proofs.Tryz.prog 127 #[.pointer (some ⟨blk.b,0,none⟩),.string (bS s)] w λe w' =>
   e=.returned (.string (bS (repB s)))/\∃ H' μ',Nj H μ (hpE 0 [a00 0 (.c .nilIface) (.lst old4)]) w H' μ' (hpE 0 [.gone]) w'/\Wd H' μ' (hpE 0 [.gone]) w':=by
 have hmf:∀ (fn:Fn) (first cap:Array Value) (w:World),(Instr.makeFunc fn first cap).run Go.Proofs.Tryz.prog w=.ok (.func fn first cap) w:=λ_ _ _ _=>rfl
 obtain⟨cc,hcc⟩:∃ c,Go.Proofs.Tryz.f208.body=some c:=⟨_,rfl⟩
 have hme:=q_method
 obtain⟨blk0,x3,x4,m0,hI,r3,r4,hB⟩:=box5 (st:=0) rfl hW
 rw[hμ] at m0;injection m0 with m0;subst m0
 go_enter Go.Proofs.Tryz.func127,Go.Proofs.Tryz.ntmps127
 go_wp2_with (first
  | (go_at_call 140;refine (do_calls hW hμ rfl).mono ?_;rintro e w' ⟨rfl,w2,p,rfl,hB2⟩;obtain⟨x0,x1,x2,y3,y4,ty,e1,-,-⟩:=hB2.cells;have c3:=pw0 (j:=3) (done_heap (p:=p) e1) rfl
     obtain⟨H',μ',blk',hN,hW',m1,rfl,hf⟩:=hB2.rest (w:=w) (o:=a00 0 (.c .nilIface) (.lst old4)) (by rw[hμ];simp) (Chg.set blk.b 1 _ w) (done_chg w2 blk.b p) (λb' hb=>nU0 hμ hb) (owns_one rfl hμ rfl))
  | (go_at_call 208;refine (J.called Go.Proofs.Tryz.func208 (by kernel_rfl) hcc (qu0 s hs) (RL_two (.bp (.e 0) 0 blk' m1) (.c _)) hW').mono ?_;rintro e w5 ⟨r,H5,μ5,rfl,⟨x,rfl,hx⟩,hN5,hW5,-,-⟩;cases hx))
 go_ret
 exact⟨rfl,H5,μ5,hN.then m1 hf hN5,hW5.gone⟩
end Go.Am
end

section
namespace Go.Am
set_option maxRecDepth 100000
theorem qq0 (s:Bs) (hs:s.length<2 ^ 39):J prog hg0 [.bp (.e 0) 0,vS (bS s)] [a00 0 (.c .nilIface) (.lst old4)] (·=.ret (vS (bS (repB s))) [.gone]):=by
 intro H μ us w hv hW
 have r0:=hv.2 0 _ rfl
 have r1:=hv.2 1 _ rfl
 rw[nb0 hv]
 generalize us.getD 0 undef=p at r0
 generalize us.getD 1 undef=q at r1
 cases r1
 cases r0 with
 | bp _ _ blk hμ =>
 obtain⟨c,hc⟩:∃ c,Go.Proofs.Tryz.f127.body=some c:=⟨_,rfl⟩
 have hn:(Go.Proofs.Tryz.f127.name == "runtime.NumGoroutine")=false:=by kernel_rfl
 have hn':¬ Go.Proofs.Tryz.f127.name = "runtime.NumGoroutine":=by simpa using hn
 have hrun:(callFunc 127 #[.pointer (some ⟨blk.b,0,none⟩),.string (bS s)]).run prog w=.ok (.enter 127 #[.pointer (some ⟨blk.b,0,none⟩),.string (bS s)]) w:=by simp[callFunc,Go.Proofs.Tryz.func127,hn',hc]
 unfold ed0
 rw[hrun]
 refine Calls.mono (pl0 s hs hW hμ) ?_
 rintro e w' ⟨rfl,H',μ',hN,hW'⟩
 refine⟨_,H',μ',rfl,⟨_,rfl,.c _⟩,hN,hW',by simp,λj o hj ho hg=>?_⟩
 match j,ho with
 | 0,ho=>injection ho with ho;exact absurd ho.symm hg
attribute [local irreducible] vc vcIs vcI vcOp vcD vcDp vcDR vcT vcAR cf0 bb0 panD neG ne pv J bY0 b50 ci0 bo0 evK evsK nthK objK boxK rowK bQ0 intK strK aggK fnK ifcK az0 aA0 ldK ldaK iaK srcK stK appK appD cn0 pvK bT0 a30 b40 bJ0 slAV bX0
theorem mL0:J prog fo0 [.lst old4] [] (·=.ret (.bp (.e 0) 0) [a00 0 (.c .nilIface) (.lst old4)]):=by
 refine av0 jm0 (by simp) ?_
 refine rS5 @eV0.eq_1 @a00.eq_1 @hpE.eq_1 @hpE.eq_2 @bH0 ?_
 refine endR [(2,.bp (.l 11 0) 0)] [(.l 11 0,a00 0 (.c .nilIface) (.lst old4))] (Wk.frz (.l 9 0) rfl (by simp[V.fz]) (by simp[Ob.fz,V.fz,a00])) [.l 11 0] (by simp) ?_
 exact rT1 @a00.eq_1
theorem tV0 (s:Bs):jh0 s=[34]++repB s++[34]:=by
 unfold jh0 repB
 congr 2
 congr 1
 funext c
 unfold kD0
 split
 ·rfl
 ·split<;>rfl
theorem oC0 (s:Bs) (hs:s.length<2 ^ 38):Ret prog nw0 [vS (bS s)] (vS (bS (jh0 s))):=by
 refine cH0 qF0 (by simp) ?_
 refine rS1 @ms0.eq_1 ?_
 refine aa0 [] ?_
 simp
 have hO:=mL0
 try simp[ae0,ad0,a00] at hO
 refine ab0 4 hO ?_
 refine rS0 ?_
 refine aa0 [.l 4 0] ?_
 simp
 have hO:=qq0 s (by omega)
 try simp[ae0,ad0,a00] at hO
 refine ab0 6 hO ?_
 have hl:=p40 s
 have h34:s.count 34<=s.length:=List.count_le_length
 have h92:s.count 92<=s.length:=List.count_le_length
 rw[qx0] at hl
 have hz:(bS (repB s)).size=(repB s).length:=rfl
 have q1:(⟨⟨[34]⟩⟩:ByteArray).size=1:=rfl
 have e:(⟨⟨[34]⟩⟩:ByteArray)++bS (repB s)++⟨⟨[34]⟩⟩=bS (jh0 s):=by rw[tV0,<- gy0,<- gy0]
 exact rT3 hz q1 e
set_option maxHeartbeats 3200000 in
theorem expr_text (num:Int) (op:Int) (text:ByteArray) (slot:Int) (type:ByteArray) (at_:Int) (h:g70 (sB text)=true):dx0 (.mk 3 op num text slot type [] at_) (jh0 (sB text)):=by
 intro bs hl
 have hlen:text.size<=256:=by
  have hp:=h
  unfold g70 at hp
  simp only[Bool.and_eq_true,decide_eq_true_eq] at hp
  exact hp.1
 have hP:=oB0 text (by omega)
 rw[h] at hP
 have hQ:=oC0 (sB text) (by have:(sB text).length=text.size:=rfl;omega)
 rw[qt0] at hQ
 refine av0 aJ0 (by simp[ae0]) ?_
 rw[Exq.V,Exq.ac0]
 simp +contextual (maxSteps:=2000000) (disch:=omega) [-Int.not_lt,-Int.not_le,-Nat.not_lt,-Nat.not_le,sx,aD0,ae0,hpE,Exq.kind,Exq.op,Exq.num,Exq.text,Exq.slot,Exq.type,Exq.args,Exq.at_]
 refine aa0 [] ?_
 simp
 have hO:=ao0
 try simp[ae0,ad0,a00] at hO
 refine ab0 23 hO ?_
 refine rS0 ?_
 refine ak0 ?_;simp;refine ah0 (hP) (by simp) ?_
 refine rS0 ?_
 refine aa0 [] ?_
 simp
 have hO:=ao0
 try simp[ae0,ad0,a00] at hO
 refine ab0 62 hO ?_
 refine rS0 ?_
 refine ak0 ?_;simp;refine ah0 (hQ) (by simp) ?_
 refine rS0 ?_
 refine aa0 [.e 0,.e 1] ?_
 simp
 have hO:=au0 bs [jh0 (sB text)] (by simp only[List.flatten_cons,List.flatten_nil,List.append_nil];omega) (by simp)
 try simp[ae0,ad0,a00] at hO
 refine ab0 68 hO ?_
 refine rS0 ?_
 refine ch0 [.l 68 0] ?_
 exact rT1 @ad0.eq_1
end Go.Am
end

section
namespace Go.Am
set_option maxRecDepth 100000
theorem shE_op {x:Exq} {t:Bs} (h:shE x=some t) (hk:x.kind=15):opOk x.op=true:=by
 obtain⟨k,op,num,text,slot,type,args,at_⟩:=x
 have hk:k=15:=hk
 subst hk
 rw[shE.eq_def] at h
 dsimp only at h
 simp only[show ¬ (15:Int)=1 by decide,show ¬ (15:Int)=2 by decide,show ¬ (15:Int)=3 by decide,show ¬ (15:Int)=6 by decide,show ¬ (15:Int)=7 by decide,show ¬ (15:Int)=12 by decide,show ¬ ((15:Int)=13\/(15:Int)=14) by decide,if_false,if_true] at h
 split at h
 all_goals first
  | (cases h;done)
  | skip
 all_goals
  split at h
  ·assumption
  ·cases h
theorem putsE:∀ (m:Nat) (x:Exq),SizeOf.sizeOf x<m->plE x=true->∀ {t:Bs},shE x=some t->dx0 x t:=by
 intro m
 induction m with
 | zero=>intro x h;omega
 | succ m ih =>
  intro x hm hp t h
  obtain⟨k,op,num,text,slot,type,args,at_⟩:=x
  rw[plE,Bool.and_eq_true,decide_eq_true_eq] at hp
  obtain⟨⟨p2,p3⟩,p4⟩:=hp
  have hsz:∀ y∈args,SizeOf.sizeOf y<m:=λy hy=>by
   have:=List.sizeOf_lt_of_mem hy
   simp only[Exq.mk.sizeOf_spec] at hm;omega
  have hpl:=r80 p4
  rw[shE.eq_def] at h
  dsimp only at h
  by_cases k1:k=1
  ·subst k1
   rw[if_pos rfl] at h
   split at h
   ·rename_i hc;obtain⟨rfl,hc2⟩:=hc
    injection h with h;subst h
    exact expr_int num op text slot type at_ hc2 p2
   ·cases h
  rw[if_neg k1] at h
  by_cases k2:k=2
  ·subst k2
   rw[if_pos rfl] at h
   split at h
   ·rename_i hc;obtain⟨rfl,hc2⟩:=hc
    injection h with h;subst h
    rcases hc2 with rfl|rfl
    ·exact tx0 op text slot type at_
    ·exact tz0 op text slot type at_
   ·cases h
  rw[if_neg k2] at h
  by_cases k3:k=3
  ·subst k3
   rw[if_pos rfl] at h
   split at h
   ·rename_i hc;obtain⟨rfl,hc2⟩:=hc
    injection h with h;subst h
    exact expr_text num op text slot type at_ hc2
   ·cases h
  rw[if_neg k3] at h
  by_cases k6:k=6
  ·subst k6
   rw[if_pos rfl] at h
   split at h
   ·rename_i hc;obtain⟨rfl,hc2⟩:=hc
    injection h with h;subst h
    exact expr_name num op text slot type at_ hc2
   ·cases h
  rw[if_neg k6] at h
  by_cases k7:k=7
  ·subst k7
   rw[if_pos rfl] at h
   split at h
   ·rename_i hc
    cases hL:shL args with
    | none=>rw[hL] at h;cases h
    | some ts =>
     rw[hL] at h
     simp only[Option.map_some,Option.some.injEq] at h
     subst h
     obtain⟨g1,g2⟩:=mm0 hL
     exact expr_call num op text slot type at_ args ts hc g1 p3 λi hi=>ih _ (hsz _ (List.getElem_mem hi)) (hpl _ (List.getElem_mem hi)) (g2 i hi (by omega))
   ·cases h
  rw[if_neg k7] at h
  have parts:∀ {ts:List Bs},shL args=some ts->ts.length=args.length/\∀ i (hi:i<args.length) (hi2:i<ts.length),dx0 args[i] ts[i]/\shE args[i]=some ts[i]:=λhL=>by
   obtain⟨g1,g2⟩:=mm0 hL
   exact⟨g1,λi hi hi2=>⟨ih _ (hsz _ (List.getElem_mem hi)) (hpl _ (List.getElem_mem hi)) (g2 i hi hi2),g2 i hi hi2⟩⟩
  by_cases k12:k=12
  ·subst k12
   rw[if_pos rfl] at h
   split at h
   all_goals first
    | (cases h;done)
    | skip
   rename_i x y a b hL
   injection h with h;subst h
   obtain⟨_,g⟩:=parts hL
   exact expr_at num op text slot type at_ x y a b (g 0 (by simp) (by simp)).1 (g 1 (by simp) (by simp)).1
  rw[if_neg k12] at h
  by_cases k13:k=13\/k=14
  ·rw[if_pos k13] at h
   split at h
   all_goals first
    | (cases h;done)
    | skip
   rename_i x a hL
   injection h with h;subst h
   obtain⟨_,g⟩:=parts hL
   rcases k13 with rfl|rfl
   ·exact rR0 num op text slot type at_ x a (g 0 (by simp) (by simp)).1
   ·exact rU0 num op text slot type at_ x a (g 0 (by simp) (by simp)).1
  rw[if_neg k13] at h
  by_cases k15:k=15
  ·subst k15
   rw[if_pos rfl] at h
   split at h
   all_goals first
    | (cases h;done)
    | skip
   rename_i x y a b hL
   split at h
   ·rename_i hop
    injection h with h;subst h
    obtain⟨_,g⟩:=parts hL
    exact expr_bin num op text slot type at_ x y a b hop (g 0 (by simp) (by simp)).1 (g 1 (by simp) (by simp)).1 (shE_op (g 0 (by simp) (by simp)).2) (shE_op (g 1 (by simp) (by simp)).2)
   ·cases h
  ·rw[if_neg k15] at h;cases h
end Go.Am
end

section
namespace Go.Am
set_option maxRecDepth 100000
attribute [local irreducible] vc vcIs vcI vcOp vcD vcDp vcDR vcT vcAR cf0 bb0 panD neG ne pv J bY0 b50 ci0 bo0 evK evsK nthK objK boxK rowK bQ0 intK strK aggK fnK ifcK az0 aA0 ldK ldaK iaK srcK stK appK appD cn0 pvK bT0 a30 b40 bJ0 slAV bX0
def nf0 (n:Nat) (x:Stm) (t:Bs):Prop:=∀ bs:Bs,bs.length+t.length<2 ^ 40->J prog eh0 [.bp (.e 0) 0,x.V,vS (bS (tabs n))] (ae0 69 bs) (·=.ret (.tup []) (ad0 69 (bs++t)))
def or0 (n:Nat) (l:List Stm) (t:Bs):Prop:=∀ bs:Bs,bs.length+t.length<2 ^ 40->J prog gb0 [.bp (.e 0) 0,.lst (l.map Stm.cells),vS (bS (tabs n))] (ae0 69 bs) (·=.ret (.tup []) (ad0 69 (bs++t)))
set_option maxHeartbeats 3200000 in
theorem st_let (name:ByteArray) (slot:Int) (state:Bool) (num:Int) (body els:List Stm) (at_:Int) (n:Nat) (x:Exq) (a:Bs) (h:cT0 (sB name)=true) (ha:dx0 x a):nf0 n (.mk 1 name slot state num [x] body els at_) (ev0++[32]++sB name++[32,61,32]++a++[59]):=by
 intro bs hl
 simp only[List.length_append,List.length_cons,List.length_nil,ev0,cS0,es0,kwIf,bs0,et0,kwTo,ew0] at hl
 have hN:=h40 h
 rw[qt0] at hN
 refine av0 aE0 (by simp[ae0]) ?_
 rw[Stm.V,Stm.ac0]
 simp +contextual (maxSteps:=2000000) (disch:=omega) [-Int.not_lt,-Int.not_le,-Nat.not_lt,-Nat.not_le,sx,aB0,ae0,hpE,Stm.kind,Stm.name,Stm.slot,Stm.state,Stm.num,Stm.e,Stm.body,Stm.els,Stm.at_]
 refine aa0 [] ?_
 simp
 have hO:=ao0
 try simp[ae0,ad0] at hO
 refine ab0 22 hO ?_
 refine rS0 ?_
 refine aa0 [] ?_
 simp
 have hO:=hN
 try simp[ae0,ad0] at hO
 refine ab0 31 hO ?_
 refine rS0 ?_
 refine aa0 [.e 0,.e 1] ?_
 simp
 have hO:=au0 (bs) [[108,101,116,32],sB name,[32,61,32]] (by simp only[List.flatten_cons,List.flatten_nil,List.append_nil,List.length_append,List.length_cons,List.length_nil];omega) (by simp)
 try simp[ae0,ad0] at hO
 refine ab0 33 hO ?_
 refine rS0 ?_
 refine aa0 [.e 0,.l 33 0] ?_
 simp
 have hO:=ha (bs++[[108,101,116,32],sB name,[32,61,32]].flatten) (by simp only[List.flatten_cons,List.flatten_nil,List.append_nil,List.length_append,List.length_cons,List.length_nil];omega)
 try simp[ae0,ad0] at hO
 refine ab0 91 hO ?_
 refine rS0 ?_
 refine aa0 [.e 0,.l 91 0] ?_
 simp
 have hO:=au0 (bs++[[108,101,116,32],sB name,[32,61,32]].flatten++a) [[59]] (by simp only[List.flatten_cons,List.flatten_nil,List.append_nil,List.length_append,List.length_cons,List.length_nil];omega) (by simp)
 try simp[ae0,ad0] at hO
 refine ab0 96 hO ?_
 refine rS0 ?_
 refine ch0 [.l 96 0] ?_
 exact rT9 @ad0.eq_1 @ev0.eq_1 @cS0.eq_1 @es0.eq_1 @kwIf.eq_1 @bs0.eq_1 @et0.eq_1 @kwTo.eq_1 @ew0.eq_1
set_option maxHeartbeats 3200000 in
theorem st_set1 (name:ByteArray) (slot:Int) (state:Bool) (num:Int) (body els:List Stm) (at_:Int) (n:Nat) (x:Exq) (a:Bs) (h:cT0 (sB name)=true) (ha:dx0 x a):nf0 n (.mk 2 name slot state num [x] body els at_) (cS0++[32]++sB name++[32,61,32]++a++[59]):=by
 intro bs hl
 simp only[List.length_append,List.length_cons,List.length_nil,ev0,cS0,es0,kwIf,bs0,et0,kwTo,ew0] at hl
 have hN:=h40 h
 rw[qt0] at hN
 refine av0 aE0 (by simp[ae0]) ?_
 rw[Stm.V,Stm.ac0]
 simp +contextual (maxSteps:=2000000) (disch:=omega) [-Int.not_lt,-Int.not_le,-Nat.not_lt,-Nat.not_le,sx,aB0,ae0,hpE,Stm.kind,Stm.name,Stm.slot,Stm.state,Stm.num,Stm.e,Stm.body,Stm.els,Stm.at_]
 refine aa0 [] ?_
 simp
 have hO:=ao0
 try simp[ae0,ad0] at hO
 refine ab0 22 hO ?_
 refine rS0 ?_
 refine aa0 [] ?_
 simp
 have hO:=hN
 try simp[ae0,ad0] at hO
 refine ab0 39 hO ?_
 refine rS0 ?_
 refine aa0 [.e 0,.e 1] ?_
 simp
 have hO:=au0 (bs) [[115,101,116,32],sB name] (by simp only[List.flatten_cons,List.flatten_nil,List.append_nil,List.length_append,List.length_cons,List.length_nil];omega) (by simp)
 try simp[ae0,ad0] at hO
 refine ab0 41 hO ?_
 refine rS0 ?_
 refine aa0 [.e 0,.l 41 0] ?_
 simp
 have hO:=au0 (bs++[[115,101,116,32],sB name].flatten) [[32,61,32]] (by simp only[List.flatten_cons,List.flatten_nil,List.append_nil,List.length_append,List.length_cons,List.length_nil];omega) (by simp)
 try simp[ae0,ad0] at hO
 refine ab0 58 hO ?_
 refine rS0 ?_
 refine aa0 [.e 0,.l 58 0] ?_
 simp
 have hO:=ha (bs++[[115,101,116,32],sB name].flatten++[[32,61,32]].flatten) (by simp only[List.flatten_cons,List.flatten_nil,List.append_nil,List.length_append,List.length_cons,List.length_nil];omega)
 try simp[ae0,ad0] at hO
 refine ab0 91 hO ?_
 refine rS0 ?_
 refine aa0 [.e 0,.l 91 0] ?_
 simp
 have hO:=au0 (bs++[[115,101,116,32],sB name].flatten++[[32,61,32]].flatten++a) [[59]] (by simp only[List.flatten_cons,List.flatten_nil,List.append_nil,List.length_append,List.length_cons,List.length_nil];omega) (by simp)
 try simp[ae0,ad0] at hO
 refine ab0 96 hO ?_
 refine rS0 ?_
 refine ch0 [.l 96 0] ?_
 exact rT9 @ad0.eq_1 @ev0.eq_1 @cS0.eq_1 @es0.eq_1 @kwIf.eq_1 @bs0.eq_1 @et0.eq_1 @kwTo.eq_1 @ew0.eq_1
set_option maxHeartbeats 3200000 in
theorem st_set2 (name:ByteArray) (slot:Int) (state:Bool) (num:Int) (body els:List Stm) (at_:Int) (n:Nat) (x y:Exq) (a c:Bs) (h:cT0 (sB name)=true) (ha:dx0 x a) (hc:dx0 y c):nf0 n (.mk 2 name slot state num [x,y] body els at_) (cS0++[32]++sB name++[91]++a++[93]++[32,61,32]++c++[59]):=by
 intro bs hl
 simp only[List.length_append,List.length_cons,List.length_nil,ev0,cS0,es0,kwIf,bs0,et0,kwTo,ew0] at hl
 have hN:=h40 h
 rw[qt0] at hN
 refine av0 aE0 (by simp[ae0]) ?_
 rw[Stm.V,Stm.ac0]
 simp +contextual (maxSteps:=2000000) (disch:=omega) [-Int.not_lt,-Int.not_le,-Nat.not_lt,-Nat.not_le,sx,aB0,ae0,hpE,Stm.kind,Stm.name,Stm.slot,Stm.state,Stm.num,Stm.e,Stm.body,Stm.els,Stm.at_]
 refine aa0 [] ?_
 simp
 have hO:=ao0
 try simp[ae0,ad0] at hO
 refine ab0 22 hO ?_
 refine rS0 ?_
 refine aa0 [] ?_
 simp
 have hO:=hN
 try simp[ae0,ad0] at hO
 refine ab0 39 hO ?_
 refine rS0 ?_
 refine aa0 [.e 0,.e 1] ?_
 simp
 have hO:=au0 (bs) [[115,101,116,32],sB name] (by simp only[List.flatten_cons,List.flatten_nil,List.append_nil,List.length_append,List.length_cons,List.length_nil];omega) (by simp)
 try simp[ae0,ad0] at hO
 refine ab0 41 hO ?_
 refine rS0 ?_
 refine aa0 [.e 0,.l 41 0] ?_
 simp
 have hO:=au0 (bs++[[115,101,116,32],sB name].flatten) [[91]] (by simp only[List.flatten_cons,List.flatten_nil,List.append_nil,List.length_append,List.length_cons,List.length_nil];omega) (by simp)
 try simp[ae0,ad0] at hO
 refine ab0 46 hO ?_
 refine rS0 ?_
 refine aa0 [.e 0,.l 46 0] ?_
 simp
 have hO:=ha (bs++[[115,101,116,32],sB name].flatten++[[91]].flatten) (by simp only[List.flatten_cons,List.flatten_nil,List.append_nil,List.length_append,List.length_cons,List.length_nil];omega)
 try simp[ae0,ad0] at hO
 refine ab0 52 hO ?_
 refine rS0 ?_
 refine aa0 [.e 0,.l 52 0] ?_
 simp
 have hO:=au0 (bs++[[115,101,116,32],sB name].flatten++[[91]].flatten++a) [[93]] (by simp only[List.flatten_cons,List.flatten_nil,List.append_nil,List.length_append,List.length_cons,List.length_nil];omega) (by simp)
 try simp[ae0,ad0] at hO
 refine ab0 55 hO ?_
 refine rS0 ?_
 refine aa0 [.e 0,.l 55 0] ?_
 simp
 have hO:=au0 (bs++[[115,101,116,32],sB name].flatten++[[91]].flatten++a++[[93]].flatten) [[32,61,32]] (by simp only[List.flatten_cons,List.flatten_nil,List.append_nil,List.length_append,List.length_cons,List.length_nil];omega) (by simp)
 try simp[ae0,ad0] at hO
 refine ab0 58 hO ?_
 refine rS0 ?_
 refine aa0 [.e 0,.l 58 0] ?_
 simp
 have hO:=hc (bs++[[115,101,116,32],sB name].flatten++[[91]].flatten++a++[[93]].flatten++[[32,61,32]].flatten) (by simp only[List.flatten_cons,List.flatten_nil,List.append_nil,List.length_append,List.length_cons,List.length_nil];omega)
 try simp[ae0,ad0] at hO
 refine ab0 91 hO ?_
 refine rS0 ?_
 refine aa0 [.e 0,.l 91 0] ?_
 simp
 have hO:=au0 (bs++[[115,101,116,32],sB name].flatten++[[91]].flatten++a++[[93]].flatten++[[32,61,32]].flatten++c) [[59]] (by simp only[List.flatten_cons,List.flatten_nil,List.append_nil,List.length_append,List.length_cons,List.length_nil];omega) (by simp)
 try simp[ae0,ad0] at hO
 refine ab0 96 hO ?_
 refine rS0 ?_
 refine ch0 [.l 96 0] ?_
 exact rT9 @ad0.eq_1 @ev0.eq_1 @cS0.eq_1 @es0.eq_1 @kwIf.eq_1 @bs0.eq_1 @et0.eq_1 @kwTo.eq_1 @ew0.eq_1
set_option maxHeartbeats 3200000 in
theorem st_del (name:ByteArray) (slot:Int) (state:Bool) (num:Int) (body els:List Stm) (at_:Int) (n:Nat) (x:Exq) (a:Bs) (h:cT0 (sB name)=true) (ha:dx0 x a):nf0 n (.mk 3 name slot state num [x] body els at_) (es0++[32]++sB name++[91]++a++[93,59]):=by
 intro bs hl
 simp only[List.length_append,List.length_cons,List.length_nil,ev0,cS0,es0,kwIf,bs0,et0,kwTo,ew0] at hl
 have hN:=h40 h
 rw[qt0] at hN
 refine av0 aE0 (by simp[ae0]) ?_
 rw[Stm.V,Stm.ac0]
 simp +contextual (maxSteps:=2000000) (disch:=omega) [-Int.not_lt,-Int.not_le,-Nat.not_lt,-Nat.not_le,sx,aB0,ae0,hpE,Stm.kind,Stm.name,Stm.slot,Stm.state,Stm.num,Stm.e,Stm.body,Stm.els,Stm.at_]
 refine aa0 [] ?_
 simp
 have hO:=ao0
 try simp[ae0,ad0] at hO
 refine ab0 22 hO ?_
 refine rS0 ?_
 refine aa0 [] ?_
 simp
 have hO:=hN
 try simp[ae0,ad0] at hO
 refine ab0 64 hO ?_
 refine rS0 ?_
 refine aa0 [.e 0,.e 1] ?_
 simp
 have hO:=au0 (bs) [[100,101,108,32],sB name,[91]] (by simp only[List.flatten_cons,List.flatten_nil,List.append_nil,List.length_append,List.length_cons,List.length_nil];omega) (by simp)
 try simp[ae0,ad0] at hO
 refine ab0 66 hO ?_
 refine rS0 ?_
 refine aa0 [.e 0,.l 66 0] ?_
 simp
 have hO:=ha (bs++[[100,101,108,32],sB name,[91]].flatten) (by simp only[List.flatten_cons,List.flatten_nil,List.append_nil,List.length_append,List.length_cons,List.length_nil];omega)
 try simp[ae0,ad0] at hO
 refine ab0 91 hO ?_
 refine rS0 ?_
 refine aa0 [.e 0,.l 91 0] ?_
 simp
 have hO:=au0 (bs++[[100,101,108,32],sB name,[91]].flatten++a) [[93,59]] (by simp only[List.flatten_cons,List.flatten_nil,List.append_nil,List.length_append,List.length_cons,List.length_nil];omega) (by simp)
 try simp[ae0,ad0] at hO
 refine ab0 101 hO ?_
 refine rS0 ?_
 refine ch0 [.l 101 0] ?_
 exact rT9 @ad0.eq_1 @ev0.eq_1 @cS0.eq_1 @es0.eq_1 @kwIf.eq_1 @bs0.eq_1 @et0.eq_1 @kwTo.eq_1 @ew0.eq_1
set_option maxHeartbeats 3200000 in
theorem st_if0 (name:ByteArray) (slot:Int) (state:Bool) (num:Int) (body:List Stm) (at_:Int) (n:Nat) (x:Exq) (a b:Bs) (ha:dx0 x a) (hb:or0 n body b):nf0 n (.mk 4 name slot state num [x] body [] at_) (kwIf++[32]++a++[32]++b):=by
 intro bs hl
 simp only[List.length_append,List.length_cons,List.length_nil,ev0,cS0,es0,kwIf,bs0,et0,kwTo,ew0] at hl
 refine av0 aE0 (by simp[ae0]) ?_
 rw[Stm.V,Stm.ac0]
 simp +contextual (maxSteps:=2000000) (disch:=omega) [-Int.not_lt,-Int.not_le,-Nat.not_lt,-Nat.not_le,sx,aB0,ae0,hpE,Stm.kind,Stm.name,Stm.slot,Stm.state,Stm.num,Stm.e,Stm.body,Stm.els,Stm.at_]
 refine aa0 [] ?_
 simp
 have hO:=ao0
 try simp[ae0,ad0] at hO
 refine ab0 22 hO ?_
 refine rS0 ?_
 refine aa0 [.e 0,.e 1] ?_
 simp
 have hO:=au0 (bs) [[105,102,32]] (by simp only[List.flatten_cons,List.flatten_nil,List.append_nil,List.length_append,List.length_cons,List.length_nil];omega) (by simp)
 try simp[ae0,ad0] at hO
 refine ab0 71 hO ?_
 refine rS0 ?_
 refine aa0 [.e 0,.l 71 0] ?_
 simp
 have hO:=ha (bs++[[105,102,32]].flatten) (by simp only[List.flatten_cons,List.flatten_nil,List.append_nil,List.length_append,List.length_cons,List.length_nil];omega)
 try simp[ae0,ad0] at hO
 refine ab0 91 hO ?_
 refine rS0 ?_
 refine aa0 [.e 0,.l 91 0] ?_
 simp
 have hO:=au0 (bs++[[105,102,32]].flatten++a) [[32]] (by simp only[List.flatten_cons,List.flatten_nil,List.append_nil,List.length_append,List.length_cons,List.length_nil];omega) (by simp)
 try simp[ae0,ad0] at hO
 refine ab0 107 hO ?_
 refine rS0 ?_
 refine aa0 [.e 0,.l 107 0] ?_
 simp
 have hO:=hb (bs++[[105,102,32]].flatten++a++[[32]].flatten) (by simp only[List.flatten_cons,List.flatten_nil,List.append_nil,List.length_append,List.length_cons,List.length_nil];omega)
 try simp[ae0,ad0] at hO
 refine ab0 112 hO ?_
 refine rS0 ?_
 refine ch0 [.l 112 0] ?_
 exact rT9 @ad0.eq_1 @ev0.eq_1 @cS0.eq_1 @es0.eq_1 @kwIf.eq_1 @bs0.eq_1 @et0.eq_1 @kwTo.eq_1 @ew0.eq_1
set_option maxHeartbeats 3200000 in
theorem st_if1 (name:ByteArray) (slot:Int) (state:Bool) (num:Int) (body els:List Stm) (at_:Int) (n:Nat) (x:Exq) (a b c:Bs) (hne:els≠[]) (ha:dx0 x a) (hb:or0 n body b) (hc:or0 n els c):nf0 n (.mk 4 name slot state num [x] body els at_) (kwIf++[32]++a++[32]++b++([32]++bs0++[32]++c)):=by
 intro bs hl
 have hpos:(0:Int)<els.length:=by have:=List.length_pos_iff.2 hne;omega
 simp only[List.length_append,List.length_cons,List.length_nil,ev0,cS0,es0,kwIf,bs0,et0,kwTo,ew0] at hl
 refine av0 aE0 (by simp[ae0]) ?_
 rw[Stm.V,Stm.ac0]
 simp +contextual (maxSteps:=2000000) (disch:=omega) [-Int.not_lt,-Int.not_le,-Nat.not_lt,-Nat.not_le,sx,aB0,ae0,hpE,Stm.kind,Stm.name,Stm.slot,Stm.state,Stm.num,Stm.e,Stm.body,Stm.els,Stm.at_]
 refine aa0 [] ?_
 simp
 have hO:=ao0
 try simp[ae0,ad0] at hO
 refine ab0 22 hO ?_
 refine rS0 ?_
 refine aa0 [.e 0,.e 1] ?_
 simp
 have hO:=au0 (bs) [[105,102,32]] (by simp only[List.flatten_cons,List.flatten_nil,List.append_nil,List.length_append,List.length_cons,List.length_nil];omega) (by simp)
 try simp[ae0,ad0] at hO
 refine ab0 71 hO ?_
 refine rS0 ?_
 refine aa0 [.e 0,.l 71 0] ?_
 simp
 have hO:=ha (bs++[[105,102,32]].flatten) (by simp only[List.flatten_cons,List.flatten_nil,List.append_nil,List.length_append,List.length_cons,List.length_nil];omega)
 try simp[ae0,ad0] at hO
 refine ab0 91 hO ?_
 refine rS0 ?_
 refine aa0 [.e 0,.l 91 0] ?_
 simp
 have hO:=au0 (bs++[[105,102,32]].flatten++a) [[32]] (by simp only[List.flatten_cons,List.flatten_nil,List.append_nil,List.length_append,List.length_cons,List.length_nil];omega) (by simp)
 try simp[ae0,ad0] at hO
 refine ab0 107 hO ?_
 refine rS0 ?_
 refine aa0 [.e 0,.l 107 0] ?_
 simp
 have hO:=hb (bs++[[105,102,32]].flatten++a++[[32]].flatten) (by simp only[List.flatten_cons,List.flatten_nil,List.append_nil,List.length_append,List.length_cons,List.length_nil];omega)
 try simp[ae0,ad0] at hO
 refine ab0 112 hO ?_
 refine rS1 hpos ?_
 refine aa0 [.e 0,.l 112 0] ?_
 simp
 have hO:=au0 (bs++[[105,102,32]].flatten++a++[[32]].flatten++b) [[32,101,108,115,101,32]] (by simp only[List.flatten_cons,List.flatten_nil,List.append_nil,List.length_append,List.length_cons,List.length_nil];omega) (by simp)
 try simp[ae0,ad0] at hO
 refine ab0 124 hO ?_
 refine rS0 ?_
 refine aa0 [.e 0,.l 124 0] ?_
 simp
 have hO:=hc (bs++[[105,102,32]].flatten++a++[[32]].flatten++b++[[32,101,108,115,101,32]].flatten) (by simp only[List.flatten_cons,List.flatten_nil,List.append_nil,List.length_append,List.length_cons,List.length_nil];omega)
 try simp[ae0,ad0] at hO
 refine ab0 129 hO ?_
 refine rS0 ?_
 refine ch0 [.l 129 0] ?_
 exact rT9 @ad0.eq_1 @ev0.eq_1 @cS0.eq_1 @es0.eq_1 @kwIf.eq_1 @bs0.eq_1 @et0.eq_1 @kwTo.eq_1 @ew0.eq_1
set_option maxHeartbeats 3200000 in
theorem st_for (name:ByteArray) (slot:Int) (state:Bool) (num:Int) (body els:List Stm) (at_:Int) (n:Nat) (x:Exq) (a b:Bs) (h:cT0 (sB name)=true) (ha:dx0 x a) (hb:or0 n body b):nf0 n (.mk 5 name slot state num [x] body els at_) (et0++[32]++sB name++[32]++kwTo++[32]++a++[32]++b):=by
 intro bs hl
 simp only[List.length_append,List.length_cons,List.length_nil,ev0,cS0,es0,kwIf,bs0,et0,kwTo,ew0] at hl
 have hN:=h40 h
 rw[qt0] at hN
 refine av0 aE0 (by simp[ae0]) ?_
 rw[Stm.V,Stm.ac0]
 simp +contextual (maxSteps:=2000000) (disch:=omega) [-Int.not_lt,-Int.not_le,-Nat.not_lt,-Nat.not_le,sx,aB0,ae0,hpE,Stm.kind,Stm.name,Stm.slot,Stm.state,Stm.num,Stm.e,Stm.body,Stm.els,Stm.at_]
 refine aa0 [] ?_
 simp
 have hO:=ao0
 try simp[ae0,ad0] at hO
 refine ab0 22 hO ?_
 refine rS0 ?_
 refine aa0 [] ?_
 simp
 have hO:=hN
 try simp[ae0,ad0] at hO
 refine ab0 77 hO ?_
 refine rS0 ?_
 refine aa0 [.e 0,.e 1] ?_
 simp
 have hO:=au0 (bs) [[102,111,114,32],sB name,[32,116,111,32]] (by simp only[List.flatten_cons,List.flatten_nil,List.append_nil,List.length_append,List.length_cons,List.length_nil];omega) (by simp)
 try simp[ae0,ad0] at hO
 refine ab0 79 hO ?_
 refine rS0 ?_
 refine aa0 [.e 0,.l 79 0] ?_
 simp
 have hO:=ha (bs++[[102,111,114,32],sB name,[32,116,111,32]].flatten) (by simp only[List.flatten_cons,List.flatten_nil,List.append_nil,List.length_append,List.length_cons,List.length_nil];omega)
 try simp[ae0,ad0] at hO
 refine ab0 91 hO ?_
 refine rS0 ?_
 refine aa0 [.e 0,.l 91 0] ?_
 simp
 have hO:=au0 (bs++[[102,111,114,32],sB name,[32,116,111,32]].flatten++a) [[32]] (by simp only[List.flatten_cons,List.flatten_nil,List.append_nil,List.length_append,List.length_cons,List.length_nil];omega) (by simp)
 try simp[ae0,ad0] at hO
 refine ab0 107 hO ?_
 refine rS0 ?_
 refine aa0 [.e 0,.l 107 0] ?_
 simp
 have hO:=hb (bs++[[102,111,114,32],sB name,[32,116,111,32]].flatten++a++[[32]].flatten) (by simp only[List.flatten_cons,List.flatten_nil,List.append_nil,List.length_append,List.length_cons,List.length_nil];omega)
 try simp[ae0,ad0] at hO
 refine ab0 112 hO ?_
 refine rS0 ?_
 refine ch0 [.l 112 0] ?_
 exact rT9 @ad0.eq_1 @ev0.eq_1 @cS0.eq_1 @es0.eq_1 @kwIf.eq_1 @bs0.eq_1 @et0.eq_1 @kwTo.eq_1 @ew0.eq_1
set_option maxHeartbeats 3200000 in
theorem st_ret (name:ByteArray) (slot:Int) (state:Bool) (num:Int) (body els:List Stm) (at_:Int) (n:Nat) (x:Exq) (a:Bs) (ha:dx0 x a):nf0 n (.mk 6 name slot state num [x] body els at_) (ew0++[32]++a++[59]):=by
 intro bs hl
 simp only[List.length_append,List.length_cons,List.length_nil,ev0,cS0,es0,kwIf,bs0,et0,kwTo,ew0] at hl
 refine av0 aE0 (by simp[ae0]) ?_
 rw[Stm.V,Stm.ac0]
 simp +contextual (maxSteps:=2000000) (disch:=omega) [-Int.not_lt,-Int.not_le,-Nat.not_lt,-Nat.not_le,sx,aB0,ae0,hpE,Stm.kind,Stm.name,Stm.slot,Stm.state,Stm.num,Stm.e,Stm.body,Stm.els,Stm.at_]
 refine aa0 [] ?_
 simp
 have hO:=ao0
 try simp[ae0,ad0] at hO
 refine ab0 22 hO ?_
 refine rS0 ?_
 refine aa0 [.e 0,.e 1] ?_
 simp
 have hO:=au0 (bs) [[114,101,116,32]] (by simp only[List.flatten_cons,List.flatten_nil,List.append_nil,List.length_append,List.length_cons,List.length_nil];omega) (by simp)
 try simp[ae0,ad0] at hO
 refine ab0 84 hO ?_
 refine rS0 ?_
 refine aa0 [.e 0,.l 84 0] ?_
 simp
 have hO:=ha (bs++[[114,101,116,32]].flatten) (by simp only[List.flatten_cons,List.flatten_nil,List.append_nil,List.length_append,List.length_cons,List.length_nil];omega)
 try simp[ae0,ad0] at hO
 refine ab0 91 hO ?_
 refine rS0 ?_
 refine aa0 [.e 0,.l 91 0] ?_
 simp
 have hO:=au0 (bs++[[114,101,116,32]].flatten++a) [[59]] (by simp only[List.flatten_cons,List.flatten_nil,List.append_nil,List.length_append,List.length_cons,List.length_nil];omega) (by simp)
 try simp[ae0,ad0] at hO
 refine ab0 96 hO ?_
 refine rS0 ?_
 refine ch0 [.l 96 0] ?_
 exact rT9 @ad0.eq_1 @ev0.eq_1 @cS0.eq_1 @es0.eq_1 @kwIf.eq_1 @bs0.eq_1 @et0.eq_1 @kwTo.eq_1 @ew0.eq_1
theorem oh0 (n:Nat):tabs n++[9]=tabs (n+1):=by unfold tabs;rw[List.replicate_succ']
theorem cY0 (n:Nat):(tabs n).length=n:=by simp[tabs]
theorem rL0 (n:Nat):or0 n [] [123,125]:=by
 intro bs hl
 refine av0 ft0 (by simp[ae0]) ?_
 refine rS4 @do0.eq_1 @ae0.eq_1 @hpE.eq_1 @hpE.eq_2 ?_
 refine aa0 [.e 0,.e 1] ?_
 simp
 have hO:=au0 bs [[123,125]] (by simpa using hl) (by simp)
 try simp[ae0,ad0,cY0,Stm.V] at hO
 refine ab0 13 hO ?_
 refine rS0 ?_
 refine ay0 [.l 13 0] ?_
 exact rT1 @ad0.eq_1
set_option maxHeartbeats 1600000 in
theorem tp0 (n:Nat) (l:List Stm) (ts:List Bs) (hne:l≠[]) (hlen:ts.length=l.length) (hx:l.length<2 ^ 30) (h:∀ i (hi:i<l.length),nf0 (n+1) l[i] (ts[i]'(by omega))) :
  or0 n l ([123,10]++(ts.map λa=>tabs (n+1)++a++[10]).flatten++tabs n++[125]):=by
 intro bs hl
 generalize hM:(ts.map λa=>tabs (n+1)++a++[10])=M at *
 have hMl:M.length=l.length:=by rw[<- hM];simp[hlen]
 have hMg:∀ i (hi:i<l.length),M[i]'(by omega)=tabs (n+1)++ts[i]'(by omega)++[10]:=λi hi=>by simp[<- hM]
 rw[<- cr0,hMl] at hl ⊢
 have hpos:¬ (l.length:Int)=0:=by have:=List.length_pos_iff.2 hne;omega
 simp only[List.length_append,List.length_cons,List.length_nil,cY0] at hl
 have htl:=cY0 n
 refine av0 ft0 (by simp[ae0]) ?_
 refine rS6 @do0.eq_1 @ae0.eq_1 @hpE.eq_1 @hpE.eq_2 hpos hne ?_
 refine aa0 [.e 0,.e 1] ?_
 simp
 have hO:=au0 bs [[123,10]] (by simp;omega) (by simp)
 try simp[ae0,ad0,cY0,Stm.V] at hO
 refine ab0 16 hO ?_
 refine rS0 ?_
 refine aS0 l.length (λi=>[(19,vI i),(18,vI l.length),(17,.lst (l.map Stm.cells)),(0,.bp (.e 0) 0),(2,vS (bS (tabs n)))])
  (λi=>[(.e 0,.box [.self (.e 0) 69,.arr (.l 999 0) 0 (bs++[123,10]++be0 M i).length]),(.l 999 0,.row 5 1 true ((bs++[123,10]++be0 M i).map aq0))])
  (Wk.rens (.l 16 0) (.l 999 0) rfl (by simp) (by simp[renF,bu0]) (by simp[renF,b70,bu0])) ?_
 intro i hi
 by_cases hlt:i<l.length
 ·have hlt':(i:Int)<l.length:=by omega
  have hle:=iK0 M (i+1)
  rw[<- cr0,hMl] at hle
  have hsucc:=e50 (L:=M) (i:=i) (by omega)
  rw[hMg i hlt] at hsucc
  have hle2:=hle
  rw[hsucc] at hle2
  simp only[List.length_append,List.length_cons,List.length_nil,cY0] at hle2
  have hP:=h i hlt
  have hts:(bS (tabs n))++⟨⟨[9]⟩⟩=bS (tabs (n+1)):=by rw[<- oh0];exact gy0 _ _
  refine rS4 hlt' hts @dJ0 htl ?_
  refine aa0 [.e 0,.l 999 0] ?_
  simp
  have hO:=au0 (bs++[123,10]++be0 M i) [tabs n,[9]] (by simp only[List.flatten_cons,List.flatten_nil,List.append_nil,List.length_append,List.length_cons,List.length_nil,cY0];omega) (by simp)
  try simp[ae0,ad0,cY0,Stm.V] at hO
  refine ab0 26 hO ?_
  refine rS3 hts @dJ0 htl ?_
  refine aa0 [.e 0,.l 26 0] ?_
  simp
  have hO:=hP (bs++[123,10]++be0 M i++[tabs n,[9]].flatten) (by simp only[List.flatten_cons,List.flatten_nil,List.append_nil,List.length_append,List.length_cons,List.length_nil,cY0];omega)
  try simp[ae0,ad0,cY0,Stm.V] at hO
  refine ab0 31 hO ?_
  refine rS0 ?_
  refine aa0 [.e 0,.l 31 0] ?_
  simp
  have hO:=au0 (bs++[123,10]++be0 M i++[tabs n,[9]].flatten++ts[i]'(by omega)) [[10]] (by simp only[List.flatten_cons,List.flatten_nil,List.append_nil,List.length_append,List.length_cons,List.length_nil,cY0];omega) (by simp)
  try simp[ae0,ad0,cY0,Stm.V] at hO
  refine ab0 34 hO ?_
  refine rS0 ?_
  have htt:∀ z:Bs,tabs n++9::z=tabs (n+1)++z:=λz=>by rw[<- oh0];simp
  have hflat:bs++[123,10]++be0 M i++[tabs n,[9]].flatten++(ts[i]'(by omega))++[10]=bs++[123,10]++be0 M (i+1):=by
   rw[hsucc,<- oh0];simp
  have e1:=congrArg List.length hflat
  have e2:=congrArg (List.map aq0) hflat
  simp[cY0] at e1 e2
  refine .of hlt (Wk.rens (.l 34 0) (.l 999 0) rfl (by simp) (by simp[renF]) (by simp[renF,b70,e1,e2]))
 ·have hge':¬ (i:Int)<l.length:=by omega
  have:i=l.length:=by omega
  subst this
  refine rS1 hge' ?_
  refine aa0 [.e 0,.l 999 0] ?_
  simp
  have hO:=au0 (bs++[123,10]++be0 M l.length) [tabs n,[125]] (by simp only[List.flatten_cons,List.flatten_nil,List.append_nil,List.length_append,List.length_cons,List.length_nil,cY0];omega) (by simp)
  try simp[ae0,ad0,cY0,Stm.V] at hO
  refine ab0 39 hO ?_
  refine rS0 ?_
  refine ch0 [.l 39 0] ?_
  exact rT2 @ad0.eq_1 @cY0
theorem s40:∀ {n:Nat} {l:List Stm} {t:Bs},shT n l=some t->∃ ts:List Bs,ts.length=l.length/\(∀ i (hi:i<l.length) (hi2:i<ts.length),shS (n+1) l[i]=some ts[i])/\t=(ts.map λa=>tabs (n+1)++a++[10]).flatten
 | n,[],t,h=>by rw[shT.eq_def] at h;simp at h;subst h;exact⟨[],rfl,λi hi=>by simp at hi,rfl⟩
 | n,x::l,t,h=>by
  rw[shT.eq_def] at h
  dsimp only at h
  split at h
  ·rename_i a b h1 h2
   injection h with h;subst h
   obtain⟨ts,g1,g2,g3⟩:=s40 h2
   refine⟨a::ts,by simp[g1],λi hi hi2=>?_,by simp[g3]⟩
   cases i with
   | zero=>exact h1
   | succ i=>exact g2 i (by simpa using hi) (by simpa using hi2)
  ·cases h
theorem pY0:∀ {l:List Stm},plB l=true->∀ x∈l,plS x=true
 | [],_,x,hx=>by simp at hx
 | y::l,h,x,hx=>by
  rw[plB,Bool.and_eq_true] at h
  rcases List.mem_cons.1 hx with rfl|hx
  ·exact h.1
  ·exact pY0 h.2 x hx
theorem p20 {n:Nat} {l:List Stm} {t:Bs} (hx:l.length<2 ^ 30) (h:shB n l=some t) (hp:∀ x∈l,∀ {t:Bs},shS (n+1) x=some t->nf0 (n+1) x t):or0 n l t:=by
 cases l with
 | nil=>rw[shB.eq_def] at h;simp at h;subst h;exact rL0 n
 | cons x l =>
  rw[lS0] at h
  cases hT:shT n (x::l) with
  | none=>rw[hT] at h;cases h
  | some q =>
   rw[hT] at h
   simp only[Option.map_some,Option.some.injEq] at h
   subst h
   obtain⟨ts,g1,g2,rfl⟩:=s40 hT
   exact tp0 n (x::l) ts (by simp) g1 hx λi hi=>hp _ (List.getElem_mem hi) (g2 i hi (by omega))
theorem putsS:∀ (m n:Nat) (x:Stm),SizeOf.sizeOf x<m->plS x=true->∀ {t:Bs},shS n x=some t->nf0 n x t:=by
 intro m
 induction m with
 | zero=>intro n x h;omega
 | succ m ih =>
  intro n x hm hp t h
  obtain⟨k,name,slot,state,num,e,body,els,at_⟩:=x
  rw[plS] at hp
  simp only[Bool.and_eq_true,decide_eq_true_eq] at hp
  obtain⟨⟨⟨p1,_,p2,p3⟩,p4⟩,p5⟩:=hp
  have hpl:=r80 p1
  have hsz1:∀ y∈body,SizeOf.sizeOf y<m:=λy hy=>by
   have:=List.sizeOf_lt_of_mem hy
   simp only[Stm.mk.sizeOf_spec] at hm;omega
  have hsz2:∀ y∈els,SizeOf.sizeOf y<m:=λy hy=>by
   have:=List.sizeOf_lt_of_mem hy
   simp only[Stm.mk.sizeOf_spec] at hm;omega
  have hE:∀ {ts:List Bs},shL e=some ts->∀ i (hi:i<e.length) (hi2:i<ts.length),dx0 e[i] ts[i]:=λhL i hi hi2=>putsE _ _ (Nat.lt_succ_self _) (hpl _ (List.getElem_mem hi)) ((mm0 hL).2 i hi hi2)
  have hB:∀ {t:Bs},shB n body=some t->or0 n body t:=λh=>p20 p2 h λx hx t ht=>ih (n+1) x (hsz1 x hx) (pY0 p4 x hx) ht
  have hC:∀ {t:Bs},shB n els=some t->or0 n els t:=λh=>p20 p3 h λx hx t ht=>ih (n+1) x (hsz2 x hx) (pY0 p5 x hx) ht
  have one:∀ {a:Bs},shL e=some [a]->∃ x,e=[x]/\dx0 x a:=λ{a} hL=>by
   obtain⟨g1,_⟩:=mm0 hL
   have g:=hE hL
   match e,g1,g with
   | [x],_,g=>exact⟨x,rfl,g 0 (by simp) (by simp)⟩
  have two:∀ {a b:Bs},shL e=some [a,b]->∃ x y,e=[x,y]/\dx0 x a/\dx0 y b:=λ{a b} hL=>by
   obtain⟨g1,_⟩:=mm0 hL
   have g:=hE hL
   match e,g1,g with
   | [x,y],_,g=>exact⟨x,y,rfl,g 0 (by simp) (by simp),g 1 (by simp) (by simp)⟩
  rw[shS.eq_def] at h
  dsimp only at h
  by_cases k1:k=1
  ·subst k1
   rw[if_pos rfl] at h
   split at h
   ·rename_i a hL
    obtain⟨x,rfl,ha⟩:=one hL
    split at h
    ·rename_i hn;injection h with h;subst h
     exact st_let name slot state num body els at_ n x a hn ha
    ·cases h
   ·cases h
  rw[if_neg k1] at h
  by_cases k2:k=2
  ·subst k2
   rw[if_pos rfl] at h
   split at h
   ·rename_i a hL
    obtain⟨x,rfl,ha⟩:=one hL
    split at h
    ·rename_i hn;injection h with h;subst h
     exact st_set1 name slot state num body els at_ n x a hn ha
    ·cases h
   ·rename_i a b hL
    obtain⟨x,y,rfl,ha,hb⟩:=two hL
    split at h
    ·rename_i hn;injection h with h;subst h
     exact st_set2 name slot state num body els at_ n x y a b hn ha hb
    ·cases h
   ·cases h
  rw[if_neg k2] at h
  by_cases k3:k=3
  ·subst k3
   rw[if_pos rfl] at h
   split at h
   ·rename_i a hL
    obtain⟨x,rfl,ha⟩:=one hL
    split at h
    ·rename_i hn;injection h with h;subst h
     exact st_del name slot state num body els at_ n x a hn ha
    ·cases h
   ·cases h
  rw[if_neg k3] at h
  by_cases k4:k=4
  ·subst k4
   rw[if_pos rfl] at h
   split at h
   ·rename_i a b c hL hb hc
    obtain⟨x,rfl,ha⟩:=one hL
    injection h with h;subst h
    by_cases hne:els=[]
    ·subst hne
     rw[if_pos rfl,List.append_nil]
     exact st_if0 name slot state num body at_ n x a b ha (hB hb)
    ·rw[if_neg hne]
     exact st_if1 name slot state num body els at_ n x a b c hne ha (hB hb) (hC hc)
   ·cases h
  rw[if_neg k4] at h
  by_cases k5:k=5
  ·subst k5
   rw[if_pos rfl] at h
   split at h
   ·rename_i a b hL hb
    obtain⟨x,rfl,ha⟩:=one hL
    split at h
    ·rename_i hn;injection h with h;subst h
     exact st_for name slot state num body els at_ n x a b hn ha (hB hb)
    ·cases h
   ·cases h
  rw[if_neg k5] at h
  by_cases k6:k=6
  ·subst k6
   rw[if_pos rfl] at h
   split at h
   ·rename_i a hL
    obtain⟨x,rfl,ha⟩:=one hL
    injection h with h;subst h
    exact st_ret name slot state num body els at_ n x a ha
   ·cases h
  ·rw[if_neg k6] at h;cases h
attribute [local irreducible] vcF dfrS dEnd lq0 dJ JD
theorem IsTy.len {d:Nat} {s:Bs} (h:IsTy d s):s.length<=7*d:=by
 induction h with
 | base h=>rcases fD0 h with rfl|rfl|rfl<;>simp[eu0,ek0,ck0]
 | list h ih=>simp;omega
 | mapI h ih=>simp[cl0];omega
 | mapT h ih=>simp[bz0];omega
theorem lX0 {s:Bs} (h:sk0 s=true):s.length<2 ^ 40:=by
 obtain⟨d,hd,hr⟩:=tyB_is h
 have:=hd.len
 omega
theorem oe0 (x:Slo) {t:Bs} (h:fB0 x=some t):Ret prog nz0 [x.V] (vS (bS t)):=by
 unfold fB0 at h
 split at h
 ·rename_i hb
  rw[Bool.and_eq_true] at hb
  injection h with h
  have ha:x.name++⟨⟨[58,32]⟩⟩++x.type=bS t:=by
   rw[<- h,<- gy0,<- gy0];try rfl
  have hn:x.name.size<=16:=q60 hb.2
  have hty:x.type.size<2 ^ 40:=lX0 hb.1
  have h2:(⟨⟨[58,32]⟩⟩:ByteArray).size=2:=rfl
  have hn1:x.name.size+(⟨⟨[58,32]⟩⟩:ByteArray).size<=9223372036854775807:=by omega
  have hn2:x.name.size+(⟨⟨[58,32]⟩⟩:ByteArray).size+x.type.size<=9223372036854775807:=by omega
  have hn3:x.name.size<=9223372036854775807:=by omega
  refine av0 qK0 (by simp) ?_
  refine rS2 @mv0.eq_1 @Slo.V.eq_1 ?_
  refine ak0 ?_;simp;refine ah0 (h70 (sB x.type) (lX0 hb.1)) (by simp) ?_
  rw[hb.1]
  refine rS0 ?_
  refine aa0 [] ?_
  simp
  have hO:=ao0
  try simp[ae0,ad0] at hO
  refine ab0 6 hO ?_
  refine rS0 ?_
  refine dz0 ?_;simp;refine ah0 ((show Ret prog e40 [vS x.name] (vS x.name) from h40 hb.2)) (by simp) ?_
  refine rS4 ha hn1 hn2 hn3 ?_
  refine ay0 [] ?_
  exact rT0
 ·cases h
theorem put_nil (L:List Bs) (hl:L.flatten.length<2 ^ 40) (hL:L.length<2 ^ 30) :
  J prog di0 [.bp (.e 0) 0,.lst (L.map aW0)] (aC0 69) (·=.ret (.tup []) (ae0 69 L.flatten)):=by
 rw[<- cr0] at *
 refine av0 d00 (by simp[aC0]) ?_
 refine rS4 @cP0.eq_1 @aC0.eq_1 @hpE.eq_1 @hpE.eq_2 ?_
 refine aS0 L.length (λi=>[(8,vI i),(7,vI L.length),(6,.lst (L.map aW0)),(0,.bp (.e 0) 0)])
  (λi=>[(.e 0,.box [.self (.e 0) 69,.arr (.l 999 0) 0 (be0 L i).length]),(.l 999 0,.row 5 1 true ((be0 L i).map aq0))])
  (Wk.trans (Wk.subs (by simp) (by simp[bu0])) (Wk.rowB (b:=.e 0) (id:=.l 999 0) (off:=1) (ty:=5) (sz:=1) rfl rfl (by simp) (by simp))) ?_
 intro i hi
 by_cases hlt:i<L.length
 ·have hlt':(i:Int)<L.length:=by omega
  have hle:=iK0 L (i+1)
  rw[<- cr0] at hle
  have hsucc:=e50 hlt
  have hlen:(be0 L (i+1)).length=(be0 L i).length+L[i].length:=by rw[hsucc,List.length_append]
  refine rS1 hlt' ?_
  refine aa0 [.e 0,.l 999 0] ?_
  simp
  have hO:=fE0 69 (be0 L i) L[i] hT69 (by omega)
  try simp[ae0,ad0] at hO
  refine ab0 16 hO ?_
  refine rS0 ?_
  refine .of hlt (Wk.rens (.l 16 0) (.l 999 0) rfl (by simp) (by simp[renF,hsucc]) (by simp[renF,b70,hsucc]))
 ·have hge':¬ (i:Int)<L.length:=by omega
  have:i=L.length:=by omega
  subst this
  refine rS1 hge' ?_
  refine ch0 [.l 999 0] ?_
  exact rT1 @ae0.eq_1
theorem ji0 (s:Bs) (n:Int):JD prog true ls0 [.bp (.e 0) 0,.bp (.e 1) 0] [.box [vS (bS s)],.box [vI n]] none (·=.ret (.tup []) [.box [vS (bS s)],.box [vI n]]):=by
 refine JR_of oz0 (by simp) (by simp) ?_
 refine rS5 @kI0.eq_1 @hpE.eq_1 @hpE.eq_2 @pvV.eq_1 @pvV.eq_2 ?_
 refine ch0 [] ?_
 exact rT0
theorem lU0:∀ {l:List Slo} {t:Bs},bC0 l=some t->∃ ts:List Bs,ts.length=l.length/\(∀ i (hi:i<l.length) (hi2:i<ts.length),fB0 l[i]=some ts[i])/\t=(ts.map λa=>dO0++[32]++a++[59,10]).flatten
 | [],t,h=>by rw[bC0.eq_def] at h;simp at h;subst h;exact⟨[],rfl,λi hi=>by simp at hi,rfl⟩
 | x::l,t,h=>by
  rw[bC0.eq_def] at h
  dsimp only at h
  split at h
  ·rename_i a b ha hb
   injection h with h
   obtain⟨ts,h1,h2,h3⟩:=lU0 hb
   refine⟨a::ts,by simp[h1],λi hi hi2=>?_,by simp[<- h,h3]⟩
   cases i with
   | zero=>exact ha
   | succ i=>exact h2 i (by simpa using hi) (by simpa using hi2)
  ·cases h
theorem oc0:∀ {l:List Fun} {t:Bs},dX0 l=some t->∃ ts:List Bs,ts.length=l.length/\(∀ i (hi:i<l.length) (hi2:i<ts.length),ml0 l[i]=some ts[i])/\t=ts.flatten
 | [],t,h=>by rw[dX0.eq_def] at h;simp at h;subst h;exact⟨[],rfl,λi hi=>by simp at hi,rfl⟩
 | x::l,t,h=>by
  rw[dX0.eq_def] at h
  dsimp only at h
  split at h
  ·rename_i a b ha hb
   injection h with h
   obtain⟨ts,h1,h2,h3⟩:=oc0 hb
   refine⟨a::ts,by simp[h1],λi hi hi2=>?_,by simp[<- h,h3]⟩
   cases i with
   | zero=>exact ha
   | succ i=>exact h2 i (by simpa using hi) (by simpa using hi2)
  ·cases h
theorem fC0:∀ {l:List Slo} {ts:List Bs},bA0 l=some ts->ts.length=l.length/\(∀ i (hi:i<l.length) (hi2:i<ts.length),fB0 l[i]=some ts[i])
 | [],ts,h=>by rw[bA0.eq_def] at h;simp at h;subst h;exact⟨rfl,λi hi=>by simp at hi⟩
 | x::l,ts,h=>by
  rw[bA0.eq_def] at h
  dsimp only at h
  split at h
  ·rename_i a b ha hb
   injection h with h
   obtain⟨h1,h2⟩:=fC0 hb
   subst h
   refine⟨by simp[h1],λi hi hi2=>?_⟩
   cases i with
   | zero=>exact ha
   | succ i=>exact h2 i (by simpa using hi) (by simpa using hi2)
  ·cases h
structure Prg.uf0 (p:Prg):Prop where
 v:p.version<9223372036854775808
 s:p.states.length<2 ^ 30
 f:p.fns.length<2 ^ 30
 ps:∀ f∈p.fns,f.params.length<2 ^ 30
 b:∀ f∈p.fns,f.body.length<2 ^ 30
 pl:∀ f∈p.fns,plB f.body=true
def ob0 (t:Bs):V:=if t.length<=16384 then .tup [vS (bS t),vI 0] else .tup [vS (bS []),vI 3]
set_option maxHeartbeats 3200000 in
theorem jS0 (p:Prg) (hp:p.uf0) (hj:∀ f∈p.fns,∀ ps,bA0 f.params=some ps->J prog dT0 [.arr (.e 0) 0 ps.length,vS (bS [44,32])] [.row 9 1 true (ps.map aW0)] (·=.ret (vS (bS (sepB ps))) [.row 9 1 true (ps.map aW0)]))
  {t:Bs} (h:shP p=some t) (ht:t.length<2 ^ 39):Ret prog iH0 [p.V] (ob0 t):=by
 unfold shP at h
 split at h
 ·rename_i hv
  split at h
  ·rename_i a b ha hb
   injection h with h
   obtain⟨ss,hs1,hs2,hs3⟩:=lU0 ha
   obtain⟨fs,hf1,hf2,hf3⟩:=oc0 hb
   have hnum:tL0 p.version=bS (numB p.version):=rfl
   have hlen:=congrArg List.length h
   simp only[List.length_append] at hlen
   have hp1:=hp.v
   refine J_dfr true qG0 (by simp) ?_
   refine rS4 @mD0.eq_1 @fP0 @fO0 @Prg.V.eq_1 ?_
   refine py0 rfl rfl (.trans (.ren (.l 2 0) 0 (by simp) (by simp) (E:=[(1,.bp (.l 1 0) 0),(2,.bp (.e 0) 0),(3,.bp (.l 3 0) 0)]) (h:=[(.l 1 0,.box p.cells),(.e 0,.box [vS (bS [])]),(.l 3 0,.box [vI 0])]) (cs':=[.bp (.e 0) 0,.bp (.l 3 0) 0]) (by simp[renF]) (by simp[renF,b70]) (by simp[renF]))
    (.ren (.l 3 0) 1 (by simp) (by simp) (E:=[(1,.bp (.l 1 0) 0),(2,.bp (.e 0) 0),(3,.bp (.e 1) 0)]) (h:=[(.l 1 0,.box p.cells),(.e 0,.box [vS (bS [])]),(.e 1,.box [vI 0])]) (cs':=[.bp (.e 0) 0,.bp (.e 1) 0]) (by simp[renF]) (by simp[renF,b70]) (by simp[renF]))) rfl ?_
   refine rS4 hv @Prg.ac0 @fP0 @fO0 ?_
   refine aa0 [] ?_
   simp
   have hO:=ao0
   try simp[ae0,ad0,aC0,aR0] at hO
   refine ab0 19 hO ?_
   refine rS0 ?_
   refine ak0 ?_;simp;refine ah0 (ix0 p.version (by omega) hp1) (by simp) ?_
   rw[hnum]
   refine rS0 ?_
   generalize hM:(ss.map λa=>dO0++[32]++a++[59,10])=M at *
   have hMl:M.length=p.states.length:=by rw[<- hM];simp[hs1]
   have hMg:∀ i (hi:i<p.states.length),M[i]'(by omega)=dO0++[32]++ss[i]'(by omega)++[59,10]:=λi hi=>by simp[<- hM]
   have hps:=hp.s
   have hpf:=hp.f
   rw[<- cr0,hMl] at hs3
   rw[<- cr0,hf1] at hf3
   subst hs3 hf3
   have hput:=put_nil [cv0++[32],numB p.version,[59,10]] (by simp;simp at hlen;omega) (by simp)
   refine aa0 [.l 15 0] ?_
   simp
   have hO:=hput
   try simp[ae0,ad0,aC0,aR0] at hO
   refine ab0 25 hO ?_
   refine rS0 ?_
   generalize hB0:cv0++[32]++numB p.version++[59,10]=B0 at *
   have hB0e:[cv0++[32],numB p.version,[59,10]].flatten=B0:=by rw[<- hB0];simp
   refine aS0 p.states.length (λi=>[(29,vI i),(28,vI p.states.length),(27,.lst (p.states.map Slo.cells)),(4,.bp (.l 15 0) 0),(1,.bp (.l 1 0) 0),(2,.bp (.e 0) 0),(3,.bp (.e 1) 0)])
    (λi=>[(.l 15 0,.box [.self (.l 15 0) 69,.arr (.l 999 0) 0 (B0++be0 M i).length]),(.l 999 0,.row 5 1 true ((B0++be0 M i).map aq0)),(.l 1 0,.box p.cells),(.e 0,.box [vS (bS [])]),(.e 1,.box [vI 0])])
    (Wk.rens (.l 25 0) (.l 999 0) rfl (by simp) (by simp[renF,bu0,<- hB0]) (by simp[renF,b70,bu0,<- hB0,Prg.ac0])) ?_
   have htl:B0.length+(be0 M p.states.length).length+(be0 fs p.fns.length).length<2 ^ 39:=by
    have:=congrArg List.length h;simp only[List.length_append] at this;omega
   clear hput
   intro i hi
   by_cases hlt:i<p.states.length
   ·have hlt':(i:Int)<p.states.length:=by omega
    have hle:=iK0 M (i+1)
    rw[<- cr0,hMl] at hle
    have hsucc:=e50 (L:=M) (i:=i) (by omega)
    rw[hMg i hlt] at hsucc
    have hle2:=hle
    rw[hsucc] at hle2
    simp only[List.length_append,List.length_cons,List.length_nil] at hle2
    refine rS1 hlt' ?_
    refine ak0 ?_;simp;refine ah0 (oe0 _ (hs2 i hlt (by omega))) (by simp) ?_
    refine rS0 ?_
    refine aa0 [.l 15 0,.l 999 0] ?_
    simp
    have hO:=au0 (B0++be0 M i) [dO0++[32],ss[i]'(by omega),[59,10]] (by simp only[List.flatten_cons,List.flatten_nil,List.append_nil,List.length_append,List.length_cons,List.length_nil];omega) (by simp)
    try simp[ae0,ad0,aC0,aR0] at hO
    refine ab0 37 hO ?_
    refine rS0 ?_
    have hflat:B0++be0 M i++[dO0++[32],ss[i]'(by omega),[59,10]].flatten=B0++be0 M (i+1):=by
     rw[hsucc];simp
    have e1:=congrArg List.length hflat
    have e2:=congrArg (List.map aq0) hflat
    simp at e1 e2
    refine .of hlt (Wk.rens (.l 37 0) (.l 999 0) rfl (by simp) (by simp[renF]) (by simp[renF,b70,e1,e2]))
   ·have hge':¬ (i:Int)<p.states.length:=by omega
    have:i=p.states.length:=by omega
    subst this
    refine rS1 hge' ?_
    generalize hB1:B0++be0 M p.states.length=B1 at *
    have hB1l:B1.length=B0.length+(be0 M p.states.length).length:=by rw[<- hB1,List.length_append]
    have hB1':=congrArg (List.map aq0) hB1
    simp only[List.map_append] at hB1'
    refine aS0 p.fns.length (λi=>[(42,vI i),(41,vI p.fns.length),(40,.lst (p.fns.map Fun.cells)),(4,.bp (.l 15 0) 0),(1,.bp (.l 1 0) 0),(2,.bp (.e 0) 0),(3,.bp (.e 1) 0)])
     (λi=>[(.l 15 0,.box [.self (.l 15 0) 69,.arr (.l 999 0) 0 (B1++be0 fs i).length]),(.l 999 0,.row 5 1 true ((B1++be0 fs i).map aq0)),(.l 1 0,.box p.cells),(.e 0,.box [vS (bS [])]),(.e 1,.box [vI 0])])
     (Wk.subs (by simp) (by simp[bu0,Prg.ac0,hB1l,<- hB1'])) ?_
    intro i hi
    by_cases hlt:i<p.fns.length
    ·have hlt':(i:Int)<p.fns.length:=by omega
     have hle:=iK0 fs (i+1)
     rw[<- cr0,hf1] at hle
     have hsucc:=e50 (L:=fs) (i:=i) (by omega)
     have hF:=hf2 i hlt (by omega)
     have hmem:p.fns[i]∈p.fns:=List.getElem_mem _
     have hJ:=hj _ hmem
     have hpb:∀ {tt:Bs},shB 0 p.fns[i].body=some tt->or0 0 p.fns[i].body tt:=λhh=>p20 (n:=0) (hp.b _ hmem) hh (λx hx tt hs=>putsS (SizeOf.sizeOf x+1) 1 x (by omega) (pY0 (hp.pl _ hmem) x hx) hs)
     have hpsl:=hp.ps _ hmem
     generalize hfe:p.fns[i]=f at *
     generalize hfi:fs[i]'(by omega)=fi at *
     unfold ml0 at hF
     split at hF
     ·rename_i ps bd hsl hbd
      split at hF
      ·rename_i hnt
       rw[Bool.and_eq_true] at hnt
       injection hF with hF
       cases hon:f.on with
       | true =>
        simp only[hon,if_true,kwOn] at hF
        refine rS3 hlt' hfe hon ?_
        refine aS0 f.params.length (λj=>[(51,vI j),(50,vI f.params.length),(49,.lst (f.params.map Slo.cells)),(10,.arr (.l 59 0) 0 j),(9,vS (bS [111,110,32])),(8,.bp (.l 8 0) 0),(42,vI i),(41,vI p.fns.length),(40,.lst (p.fns.map Fun.cells)),(4,.bp (.l 15 0) 0),(1,.bp (.l 1 0) 0),(2,.bp (.e 0) 0),(3,.bp (.e 1) 0)])
         (λj=>[(.l 59 0,.row 9 1 true ((ps.take j).map aW0)),(.l 8 0,.box f.cells),(.l 15 0,.box [.self (.l 15 0) 69,.arr (.l 999 0) 0 (B1++be0 fs i).length]),(.l 999 0,.row 5 1 true ((B1++be0 fs i).map aq0)),(.l 1 0,.box p.cells),(.e 0,.box [vS (bS [])]),(.e 1,.box [vI 0])])
         (Wk.trans (Wk.subs (by simp) (by simp)) (Wk.row (s:=10) (id:=.l 59 0) (ty:=9) (sz:=1) rfl)) ?_
        intro j hjl
        obtain⟨hpl1,hpl2⟩:=fC0 hsl
        have hfil:=congrArg List.length hF
        have hle2:=congrArg List.length hsucc
        simp only[List.length_append,List.length_cons,List.length_nil] at hfil hle2
        by_cases hjlt:j<f.params.length
        ·have hjlt':(j:Int)<f.params.length:=by omega
         have htk:(ps.take (j+1)).map aW0=(ps.take j).map aW0++[aW0 (ps[j]'(by omega))]:=by
          rw[List.take_add_one,List.getElem?_eq_getElem (by omega:j<ps.length)];simp
         refine rS1 hjlt' ?_
         refine ak0 ?_;simp;refine ah0 (oe0 _ (hpl2 j hjlt (by omega))) (by simp) ?_
         refine rS0 ?_
         refine .of hjlt (Wk.subs (by simp) (by simp[htk]))
        ·have hjge':¬ (j:Int)<f.params.length:=by omega
         have:j=f.params.length:=by omega
         subst this
         have htk:ps.take f.params.length=ps:=by rw[<- hpl1];exact List.take_length
         have htk':List.take f.params.length (ps.map aW0)=ps.map aW0:=by rw[<- List.map_take,htk]
         refine rS2 hjge' htk' ?_
         refine ak0 ?_;simp;refine ah0 (h70 (sB f.result) (lX0 hnt.1)) (by simp) ?_
         rw[hnt.1]
         refine rS0 ?_
         refine aa0 [] ?_
         simp
         have hO:=ao0
         try simp[ae0,ad0,aC0,aR0] at hO
         refine ab0 64 hO ?_
         refine rS0 ?_
         refine dz0 ?_;simp;refine ah0 ((show Ret prog e40 [vS f.name] (vS f.name) from h40 hnt.2)) (by simp) ?_
         refine rS0 ?_
         have hJp:=hJ ps hsl
         rw[hpl1] at hJp
         refine bw0 [.l 59 0] ?_
         simp
         have hO:=hJp
         try simp[ae0,ad0,aC0,aR0] at hO
         refine c00 71 hO ?_
         refine rS0 ?_
         refine aa0 [.l 15 0,.l 999 0] ?_
         simp
         have hO:=au0 (B1++be0 fs i) [[111,110,32],sB f.name,[40],sepB ps,[41,58,32],sB f.result,[32]] (by simp only[List.flatten_cons,List.flatten_nil,List.append_nil,List.length_append,List.length_cons,List.length_nil];omega) (by simp)
         try simp[ae0,ad0,aC0,aR0] at hO
         refine ab0 75 hO ?_
         refine rS0 ?_
         refine aa0 [.l 15 0,.l 75 0] ?_
         simp
         have hO:=hpb hbd (B1++be0 fs i++[[111,110,32],sB f.name,[40],sepB ps,[41,58,32],sB f.result,[32]].flatten) (by simp only[List.flatten_cons,List.flatten_nil,List.append_nil,List.length_append,List.length_cons,List.length_nil];omega)
         try simp[ae0,ad0,aC0,aR0] at hO
         refine ab0 79 hO ?_
         refine rS0 ?_
         refine aa0 [.l 15 0,.l 79 0] ?_
         simp
         have hO:=au0 (B1++be0 fs i++[[111,110,32],sB f.name,[40],sepB ps,[41,58,32],sB f.result,[32]].flatten++bd) [[10]] (by simp only[List.flatten_cons,List.flatten_nil,List.append_nil,List.length_append,List.length_cons,List.length_nil];omega) (by simp)
         try simp[ae0,ad0,aC0,aR0] at hO
         refine ab0 82 hO ?_
         refine rS0 ?_
         have hflat:B1++be0 fs i++[[111,110,32],sB f.name,[40],sepB ps,[41,58,32],sB f.result,[32]].flatten++bd++[10]=B1++be0 fs (i+1):=by
          rw[hsucc,<- hF];simp
         have e1:=congrArg List.length hflat
         have e2:=congrArg (List.map aq0) hflat
         simp at e1 e2
         refine .of hlt (Wk.rens (.l 82 0) (.l 999 0) rfl (by simp) (by simp[renF]) (by simp[renF,b70,e1,e2]))
       | false =>
        simp only[hon,Bool.false_eq_true,if_false,kwFn] at hF
        refine rS3 hlt' hfe hon ?_
        refine aS0 f.params.length (λj=>[(51,vI j),(50,vI f.params.length),(49,.lst (f.params.map Slo.cells)),(10,.arr (.l 59 0) 0 j),(9,vS (bS [102,110,32])),(8,.bp (.l 8 0) 0),(42,vI i),(41,vI p.fns.length),(40,.lst (p.fns.map Fun.cells)),(4,.bp (.l 15 0) 0),(1,.bp (.l 1 0) 0),(2,.bp (.e 0) 0),(3,.bp (.e 1) 0)])
         (λj=>[(.l 59 0,.row 9 1 true ((ps.take j).map aW0)),(.l 8 0,.box f.cells),(.l 15 0,.box [.self (.l 15 0) 69,.arr (.l 999 0) 0 (B1++be0 fs i).length]),(.l 999 0,.row 5 1 true ((B1++be0 fs i).map aq0)),(.l 1 0,.box p.cells),(.e 0,.box [vS (bS [])]),(.e 1,.box [vI 0])])
         (Wk.trans (Wk.subs (by simp) (by simp)) (Wk.row (s:=10) (id:=.l 59 0) (ty:=9) (sz:=1) rfl)) ?_
        intro j hjl
        obtain⟨hpl1,hpl2⟩:=fC0 hsl
        have hfil:=congrArg List.length hF
        have hle2:=congrArg List.length hsucc
        simp only[List.length_append,List.length_cons,List.length_nil] at hfil hle2
        by_cases hjlt:j<f.params.length
        ·have hjlt':(j:Int)<f.params.length:=by omega
         have htk:(ps.take (j+1)).map aW0=(ps.take j).map aW0++[aW0 (ps[j]'(by omega))]:=by
          rw[List.take_add_one,List.getElem?_eq_getElem (by omega:j<ps.length)];simp
         refine rS1 hjlt' ?_
         refine ak0 ?_;simp;refine ah0 (oe0 _ (hpl2 j hjlt (by omega))) (by simp) ?_
         refine rS0 ?_
         refine .of hjlt (Wk.subs (by simp) (by simp[htk]))
        ·have hjge':¬ (j:Int)<f.params.length:=by omega
         have:j=f.params.length:=by omega
         subst this
         have htk:ps.take f.params.length=ps:=by rw[<- hpl1];exact List.take_length
         have htk':List.take f.params.length (ps.map aW0)=ps.map aW0:=by rw[<- List.map_take,htk]
         refine rS2 hjge' htk' ?_
         refine ak0 ?_;simp;refine ah0 (h70 (sB f.result) (lX0 hnt.1)) (by simp) ?_
         rw[hnt.1]
         refine rS0 ?_
         refine aa0 [] ?_
         simp
         have hO:=ao0
         try simp[ae0,ad0,aC0,aR0] at hO
         refine ab0 64 hO ?_
         refine rS0 ?_
         refine dz0 ?_;simp;refine ah0 ((show Ret prog e40 [vS f.name] (vS f.name) from h40 hnt.2)) (by simp) ?_
         refine rS0 ?_
         have hJp:=hJ ps hsl
         rw[hpl1] at hJp
         refine bw0 [.l 59 0] ?_
         simp
         have hO:=hJp
         try simp[ae0,ad0,aC0,aR0] at hO
         refine c00 71 hO ?_
         refine rS0 ?_
         refine aa0 [.l 15 0,.l 999 0] ?_
         simp
         have hO:=au0 (B1++be0 fs i) [[102,110,32],sB f.name,[40],sepB ps,[41,58,32],sB f.result,[32]] (by simp only[List.flatten_cons,List.flatten_nil,List.append_nil,List.length_append,List.length_cons,List.length_nil];omega) (by simp)
         try simp[ae0,ad0,aC0,aR0] at hO
         refine ab0 75 hO ?_
         refine rS0 ?_
         refine aa0 [.l 15 0,.l 75 0] ?_
         simp
         have hO:=hpb hbd (B1++be0 fs i++[[102,110,32],sB f.name,[40],sepB ps,[41,58,32],sB f.result,[32]].flatten) (by simp only[List.flatten_cons,List.flatten_nil,List.append_nil,List.length_append,List.length_cons,List.length_nil];omega)
         try simp[ae0,ad0,aC0,aR0] at hO
         refine ab0 79 hO ?_
         refine rS0 ?_
         refine aa0 [.l 15 0,.l 79 0] ?_
         simp
         have hO:=au0 (B1++be0 fs i++[[102,110,32],sB f.name,[40],sepB ps,[41,58,32],sB f.result,[32]].flatten++bd) [[10]] (by simp only[List.flatten_cons,List.flatten_nil,List.append_nil,List.length_append,List.length_cons,List.length_nil];omega) (by simp)
         try simp[ae0,ad0,aC0,aR0] at hO
         refine ab0 82 hO ?_
         refine rS0 ?_
         have hflat:B1++be0 fs i++[[102,110,32],sB f.name,[40],sepB ps,[41,58,32],sB f.result,[32]].flatten++bd++[10]=B1++be0 fs (i+1):=by
          rw[hsucc,<- hF];simp
         have e1:=congrArg List.length hflat
         have e2:=congrArg (List.map aq0) hflat
         simp at e1 e2
         refine .of hlt (Wk.rens (.l 82 0) (.l 999 0) rfl (by simp) (by simp[renF]) (by simp[renF,b70,e1,e2]))
      ·cases hF
     ·cases hF
    ·have hge':¬ (i:Int)<p.fns.length:=by omega
     have:i=p.fns.length:=by omega
     subst this
     refine rS1 hge' ?_
     rw[<- h] at ht ⊢
     refine aa0 [.l 15 0,.l 999 0] ?_
     simp
     have hO:=iZ0 69 (B1++be0 fs p.fns.length)
     try simp[ae0,ad0,aC0,aR0] at hO
     refine ab0 87 hO ?_
     have hne:B1++be0 fs p.fns.length≠[]:=by rw[<- hB1,<- hB0];simp[cv0]
     by_cases hbig:(B1++be0 fs p.fns.length).length<=16384
     ·have hb2:¬ (16384:Int)<((B1++be0 fs p.fns.length).length:Nat):=by omega
      have hbig':=hbig
      simp only[List.length_append] at hbig'
      rw[List.length_append] at hb2
      refine rS1 hb2 ?_
      refine aa0 [.l 15 0,.l 999 0] ?_
      simp
      have hO:=gv0 69 (B1++be0 fs p.fns.length) hne
      try simp[ae0,ad0,aC0,aR0] at hO
      refine ab0 92 hO ?_
      refine rS0 ?_
      refine mZ0 _ _ (Wk.refl _ _) (eE0 [.e 0,.e 1] (by simp) ?_)
      simp
      refine mx0 (ji0 (B1++be0 fs p.fns.length) 0) (by simp) ?_
      simp
      refine ay0 [] ?_
      exact rT2 @ob0.eq_1 hbig'
     ·have hb2:(16384:Int)<((B1++be0 fs p.fns.length).length:Nat):=by omega
      have hbig':=hbig
      simp only[List.length_append] at hbig'
      rw[List.length_append] at hb2
      refine rS1 hb2 ?_
      refine mZ0 _ _ (Wk.refl _ _) (eE0 [.e 0,.e 1] (by simp) ?_)
      simp
      refine mx0 (ji0 [] 3) (by simp) ?_
      simp
      refine ay0 [] ?_
      exact rT2 @ob0.eq_1 hbig'
  ·cases h
 ·cases h
theorem qn0 (s:Bs):J prog dT0 [.arr (.e 0) 0 0,vS (bS s)] [.row 9 1 true []] (·=.ret (vS (bS [])) [.row 9 1 true []]):=by
 refine av0 nE0 (by simp) ?_
 refine rS3 @jv0.eq_1 @hpE.eq_1 @hpE.eq_2 ?_
 refine ay0 [] ?_
 exact rT0
def ll0:Bs:=[118,101,114,115,105,111,110,32,49,59,102,110,32,102,40,41,58,105,110,116,123,114,101,116,32,40,40,49,43,50,41,42,51,41,45,40,45,52,41,59,125]
def qi0:Bs:=[118,101,114,115,105,111,110,32,49,59,10,102,110,32,102,40,41,58,32,105,110,116,32,123,10,9,114,101,116,32,40,49,32,43,32,50,41,32,42,32,51,32,45,32,45,52,59,10,125,10]
def tellsB (p:Prg):Bool:=decide (p.version<9223372036854775808/\p.states.length<2 ^ 30/\p.fns.length<2 ^ 30)&&p.fns.all λf=>decide (f.params.length=0/\f.body.length<2 ^ 30)&&plB f.body
def wakeB:Bool:=match gh0 ll0 100 with
 | .ok p=>tellsB p&&shP p == some qi0
 | .bad _ _=>false
theorem up0:wakeB=true:=by kernel_rfl
theorem wake_prg:∃ p,gh0 ll0 100=.ok p/\p.uf0/\shP p=some qi0/\∀ f∈p.fns,f.params=[]:=by
 have h:=up0
 unfold wakeB at h
 split at h
 ·rename_i p hp
  refine⟨p,hp,?_⟩
  unfold tellsB at h
  simp only[Bool.and_eq_true,decide_eq_true_eq,List.all_eq_true,beq_iff_eq] at h
  obtain⟨⟨⟨a,b,c⟩,d⟩,e⟩:=h
  refine⟨⟨a,b,c,λf hf=>?_,λf hf=>(d f hf).1.2,λf hf=>(d f hf).2⟩,e,λf hf=>List.length_eq_zero_iff.1 (d f hf).1.1⟩
  have:=(d f hf).1.1
  omega
 ·cases h
theorem pg0:Ret prog hG0 [] (vB true):=by
 obtain⟨p,hp,ht,hs,hf⟩:=wake_prg
 have hP:=fK0 (bS ll0) (by decide) 100 (by rw[show sB (bS ll0)=ll0 from rfl,hp];simp[LxR.live])
 rw[show sB (bS ll0)=ll0 from rfl,hp] at hP
 have hS:=jS0 p ht (λf hff ps hps=>by
  rw[hf f hff] at hps
  rw[bA0.eq_def] at hps
  simp at hps
  subst hps
  exact qn0 _) hs (by decide)
 refine cH0 k40 (by simp) ?_
 refine rS1 @gC0.eq_1 ?_
 refine ak0 ?_;simp;refine ah0 hP (by simp[kS0,V.pure,V.bK0]) ?_
 refine rS2 @kS0.eq_1 @kS0.eq_2 ?_
 refine ak0 ?_;simp;refine ah0 hS (by simp[ob0,qi0,V.pure,V.bK0]) ?_
 exact rT2 @ob0.eq_1 @qi0.eq_1
end Go.Am
end

section
namespace Go.Am
set_option maxRecDepth 100000
theorem rq0 (ts:List Bs):Lib.join ts [44,32]=sepB ts:=by
 cases ts with
 | nil=>rfl
 | cons x r =>
  rw[Lib.join_cons]
  unfold sepB Lib.joinTail
  rw[List.mapIdx_cons,List.flatten_cons,if_pos rfl,List.nil_append]
  congr 1
  have:∀ (r:List Bs) (k:Nat),((r.mapIdx λi t=>(if i+(k+1)=0 then ([]:Bs) else [44,32])++t).flatten)=(r.map ([44,32]++·)).flatten:=by
   intro r
   induction r with
   | nil=>intro k;rfl
   | cons y r ih =>
    intro k
    rw[List.mapIdx_cons,List.map_cons,List.flatten_cons,List.flatten_cons,if_neg (by omega)]
    congr 1
    have:=ih (k+1)
    simpa[Nat.add_assoc,Nat.add_comm,Nat.add_left_comm] using this
  exact (this r 0).symm
theorem Join_row (ts:List Bs) (h0:ts≠[]) (hn:ts.length<2 ^ 30) (hl:(sepB ts).length<2 ^ 40) :
  J prog dT0 [.arr (.e 0) 0 ts.length,vS (bS [44,32])] [.row 9 1 true (ts.map aW0)] (·=.ret (vS (bS (sepB ts))) [.row 9 1 true (ts.map aW0)]):=by
 obtain⟨c,hc⟩:∃ c,Go.Proofs.Tryz.f26.body=some c:=⟨_,rfl⟩
 refine rF0 Go.Proofs.Tryz.func26 (by kernel_rfl) hc ?_
 intro H μ us w hv hW
 have r0:=hv.2 0 _ rfl
 have r1:=hv.2 1 _ rfl
 rw[nb0 hv]
 generalize us.getD 0 undef=p at r0
 generalize us.getD 1 undef=q at r1
 cases r1
 have hlen:0<ts.length:=List.length_pos_iff.2 h0
 cases r0 with
 | arr _ _ _ a cap hc ha =>
 obtain⟨bg,g1,g2,g3⟩:=ha.resolve_left (by omega)
 subst g2
 have hl0:(hpE 0 [.row 9 1 true (ts.map aW0)]).lookup (.e 0)=some (.row 9 1 true (ts.map aW0)):=rfl
 rcases hW.ob _ _ hl0 with⟨z,_⟩|⟨bg',cur,m1,⟨m2,m3,m4⟩,m5,m6,m7,m8,m9,m10,m11⟩
 ·exact absurd (by simpa using z) h0
 rw[g1] at m1;injection m1 with m1;subst m1
 have hj:=Go.Proofs.Any.strings_Join Go.Proofs.Tryz.lays156 Go.Proofs.Tryz.bx156 bg.b 0 cap (ts.map bS) (bS [44,32]) w (λj x hx=>by
   rw[List.getElem?_map,Option.map_eq_some_iff] at hx
   obtain⟨t,ht,rfl⟩:=hx
   obtain⟨y,y1,y2⟩:=m11 j (aW0 t) (by rw[List.getElem?_map,ht];rfl) 0 _ rfl
   cases y2
   simpa[World.cell?,m5] using y1) (Array.getElem?_eq_some_iff.1 m5).1 (by simp;omega) (by simpa using hc) (by
   rw[List.map_map,show (ts.map ((λx:ByteArray=>x.data.toList) ∘ bS))=ts from List.map_id ts,show (bS [44,32]).data.toList=[44,32] from rfl,rq0];omega)
 rw[List.map_map,show (ts.map ((λx:ByteArray=>x.data.toList) ∘ bS))=ts from List.map_id ts,show (bS [44,32]).data.toList=[44,32] from rfl,rq0,List.length_map] at hj
 have hs:(⟨(sepB ts).toArray⟩:ByteArray)=bS (sepB ts):=rfl
 rw[hs] at hj
 generalize bS (sepB ts)=z at *
 have hfin:Calls prog 26 #[.slice (some ⟨bg.b,0,none⟩) ts.length cap,.string (bS [44,32])] w λe w'=>e=.returned (.string z)/\Go.RowKit.Below w.heap.size w w':=hj
 clear hj
 rw[Nat.zero_mul]
 refine Calls.mono hfin ?_
 rintro e w' ⟨he,hB⟩
 exact⟨⟨.string z,he,.c (.string z)⟩,hB⟩
theorem sp0 (ts:List Bs) (hn:ts.length<2 ^ 30) (hl:(sepB ts).length<2 ^ 40) :
  J prog dT0 [.arr (.e 0) 0 ts.length,vS (bS [44,32])] [.row 9 1 true (ts.map aW0)] (·=.ret (vS (bS (sepB ts))) [.row 9 1 true (ts.map aW0)]):=by
 cases ts with
 | nil=>exact qn0 _
 | cons x r=>exact Join_row (x::r) (by simp) hn hl
end Go.Am
end

section
namespace Go.Am
set_option maxRecDepth 100000
variable {ts:List Tok}
theorem ai0 {α β:Type} {r:LxR α} {g:α->LxR β} (h:r.live) (h2:∀ a,r=.ok a->(g a).live):(r.bind g).live:=by
 cases r with
 | ok a=>exact h2 a rfl
 | bad a e=>exact h
theorem dW0 {α:Type} (n:Nat) {e:Int} (h:e ≠ -1):(eS0 ts n e:LxR α).live:=h
theorem aM0 (n:Nat) (t:Bs):(aX0 ts n t).live:=by unfold aX0;split;exact trivial;exact dW0 _ (by decide)
theorem o50 (n:Nat) (t:Bs):(kA0 ts n t).live:=by unfold kA0;split;exact trivial;exact dW0 _ (by decide)
theorem fb0 (n:Nat):(df0 ts n).live:=by unfold df0;split;exact trivial;exact dW0 _ (by decide)
theorem pInt_live (n:Nat):(pInt ts n).live:=by unfold pInt;split;exact trivial;exact dW0 _ (by decide)
theorem ra0 (n:Nat):(pKey ts n).live:=by unfold pKey;split;exact trivial;split;exact trivial;exact dW0 _ (by decide)
theorem j70 (n d:Nat):(hs0 ts n d).live:=by unfold hs0;split;exact dW0 _ (by decide);exact trivial
theorem j80:∀ (r n:Nat),(cV0 ts r n).live
 | 0,n=>dW0 _ (by decide)
 | r+1,n=>by
  rw[cV0]
  split
  ·exact trivial
  split
  ·exact ai0 (j80 r _) λ_ _=>ai0 (aM0 _ _) λ_ _=>trivial
  split
  ·exact ai0 (ra0 _) λ_ _=>ai0 (aM0 _ _) λ_ _=>ai0 (j80 r _) λ_ _=>ai0 (aM0 _ _) λ_ _=>trivial
  ·exact ra0 _
theorem o40 (n:Nat):(iv0 ts n).live:=ai0 (fb0 _) λ_ _=>ai0 (aM0 _ _) λ_ _=>ai0 (j80 _ _) λ_ _=>trivial
structure LiveX (ts:List Tok) (f:Nat):Prop where
 ex:∀ {d n:Nat},n<ts.length->16*(ts.length-n)+10<=f->(by0 ts f d n).live
 bin:∀ {l d n:Nat},n<ts.length->l<=5->16*(ts.length-n)+9<=f+l->(pBin ts f l d n).live
 loop:∀ {l d:Nat} {out:Exq} {n:Nat},n<ts.length->l<=4->16*(ts.length-n)+1<=f->(ex0 ts f l d out n).live
 un:∀ {d n:Nat},n<ts.length->16*(ts.length-n)+3<=f->(pUn ts f d n).live
 post:∀ {d:Nat} {out:Exq} {n:Nat},n<ts.length->16*(ts.length-n)+1<=f->(fc0 ts f d out n).live
 prim:∀ {d n:Nat},n<ts.length->16*(ts.length-n)+2<=f->(ec0 ts f d n).live
 args:∀ {d:Nat} {out:List Exq} {n:Nat},n<ts.length->16*(ts.length-n)+11<=f->(eP0 ts f d out n).live
theorem liveX (hE:TEnd ts):∀ f,LiveX ts f
 | 0=>⟨λ_ h=>by omega,λ_ _ h=>by omega,λ_ _ h=>by omega,λ_ h=>by omega,λ_ h=>by omega,λ_ h=>by omega,λ_ h=>by omega⟩
 | f+1=>by
  have ih:=liveX hE f
  have ig:=k50 hE f
  refine⟨λhn h=>?_,λhn hl h=>?_,λhn hl h=>?_,λhn h=>?_,λhn h=>?_,λhn h=>?_,λhn h=>?_⟩
  ·rw[by0]
   exact ai0 (j70 _ _) λ_ _=>ih.bin hn (by omega) (by omega)
  ·rw[pBin]
   split
   ·exact ih.un hn (by omega)
   ·refine ai0 (ih.bin hn (by omega) (by omega)) λ⟨b,m⟩ e=>?_
    have q:=ig.bin hn e
    exact ih.loop q.2 (by omega) (by dsimp only;omega)
  ·rw[ex0]
   split
   ·rename_i hi
    have h0:=hE _ hn (by rw[jD0 hi];decide)
    refine ai0 (ih.bin h0 (by omega) (by omega)) λ⟨b,m⟩ e=>?_
    have q:=ig.bin h0 e
    dsimp only
    split
    ·split
     ·exact dW0 _ (by decide)
     ·exact trivial
    ·exact ih.loop q.2 (by omega) (by omega)
   ·exact trivial
  ·rw[pUn]
   split
   ·rename_i hi
    have h0:=ax0 hE hn hi (by decide)
    exact ai0 (j70 _ _) λ_ _=>ai0 (ih.un h0 (by omega)) λ_ _=>trivial
   split
   ·rename_i hi
    have h0:=ax0 hE hn hi (by decide)
    exact ai0 (j70 _ _) λ_ _=>ai0 (ih.un h0 (by omega)) λ_ _=>trivial
   ·refine ai0 (ih.prim hn (by omega)) λ⟨b,m⟩ e=>?_
    have q:=ig.prim hn e
    exact ih.post q.2 (by dsimp only;omega)
  ·rw[fc0]
   split
   ·rename_i hi
    have h0:=ax0 hE hn hi (by decide)
    refine ai0 (ih.ex h0 (by omega)) λ⟨b,m⟩ e=>ai0 (aM0 _ _) λm' e'=>?_
    have q:=ig.ex h0 e
    have q':=am0 hE q.2 e'
    exact ih.post q'.2 (by dsimp only at *;omega)
   ·exact trivial
  ·rw[ec0]
   split;· exact trivial
   split;· exact trivial
   split;· exact trivial
   split;· exact trivial
   split
   ·rename_i hi
    have h0:=ax0 hE hn hi (by decide)
    exact ai0 (ih.ex h0 (by omega)) λ⟨b,m⟩ e=>ai0 (aM0 _ _) λm' e'=>trivial
   ·refine ai0 (fb0 _) λ⟨b,m⟩ e=>?_
    split
    ·rename_i hi
     split
     ·exact trivial
     ·have q:=bh0 hE hn e
      have e1:=e
      unfold df0 at e1
      split at e1
      ·injection e1 with e1;injection e1 with e2 e3;subst e3
       have h0:=ax0 hE q.2 hi (by decide)
       exact ai0 (ih.args h0 (by omega)) λ_ _=>trivial
      ·cases e1
    ·exact trivial
  ·rw[eP0]
   refine ai0 (ih.ex hn (by omega)) λ⟨b,m⟩ e=>?_
   have q:=ig.ex hn e
   dsimp only
   split
   ·exact trivial
   ·refine ai0 (aM0 _ _) λm' e'=>?_
    have q':=am0 hE q.2 e'
    exact ih.args q'.2 (by omega)
structure LiveS (ts:List Tok) (f:Nat):Prop where
 block:∀ {d n:Nat},n<ts.length->16*(ts.length-n)+1<=f->(bc0 ts f d n).live
 stms:∀ {d:Nat} {out:List Stm} {n:Nat},n<ts.length->16*(ts.length-n)+2<=f->(g40 ts f d out n).live
 stm:∀ {d n:Nat},n<ts.length->16*(ts.length-n)+1<=f->(pStm ts f d n).live
theorem liveS (hE:TEnd ts):∀ f,LiveS ts f
 | 0=>⟨λ_ h=>by omega,λ_ h=>by omega,λ_ h=>by omega⟩
 | f+1=>by
  have ih:=liveS hE f
  have ix:=liveX hE f
  have ig:=k50 hE f
  have is:=nG0 hE f
  refine⟨λhn h=>?_,λhn h=>?_,λhn h=>?_⟩
  ·rw[bc0]
   refine ai0 (j70 _ _) λ_ _=>ai0 (aM0 _ _) λm e=>?_
   have q:=am0 hE hn e
   exact ih.stms q.2 (by omega)
  ·rw[g40]
   split
   ·exact trivial
   ·refine ai0 (ih.stm hn (by omega)) λ⟨s,m⟩ e=>?_
    have q:=is.stm hn e
    exact ih.stms q.2 (by dsimp only;omega)
  ·rw[pStm]
   split
   ·rename_i hi
    have h0:=ax0 hE hn hi (by decide)
    refine ai0 (fb0 _) λ⟨t,n1⟩ e1=>ai0 (aM0 _ _) λn2 e2=>?_
    have q1:=bh0 hE h0 e1
    have q2:=am0 hE q1.2 e2
    exact ai0 (ix.ex q2.2 (by dsimp only at *;omega)) λ_ _=>ai0 (aM0 _ _) λ_ _=>trivial
   split
   ·rename_i hi
    have h0:=ax0 hE hn hi (by decide)
    refine ai0 (fb0 _) λ⟨t,n1⟩ e1=>?_
    have q1:=bh0 hE h0 e1
    split
    ·rename_i hi2
     have h00:=ax0 hE q1.2 hi2 (by decide)
     refine ai0 (ix.ex h00 (by dsimp only at *;omega)) λ⟨x,n3⟩ e3=>ai0 (aM0 _ _) λn4 e4=>ai0 (aM0 _ _) λn5 e5=>?_
     have q3:=ig.ex h00 e3
     have q4:=am0 hE q3.2 e4
     have q5:=am0 hE q4.2 e5
     exact ai0 (ix.ex q5.2 (by dsimp only at *;omega)) λ_ _=>ai0 (aM0 _ _) λ_ _=>trivial
    ·refine ai0 (aM0 _ _) λn2 e2=>?_
     have q2:=am0 hE q1.2 e2
     exact ai0 (ix.ex q2.2 (by dsimp only at *;omega)) λ_ _=>ai0 (aM0 _ _) λ_ _=>trivial
   split
   ·rename_i hi
    have h0:=ax0 hE hn hi (by decide)
    refine ai0 (fb0 _) λ⟨t,n1⟩ e1=>ai0 (aM0 _ _) λn2 e2=>?_
    have q1:=bh0 hE h0 e1
    have q2:=am0 hE q1.2 e2
    exact ai0 (ix.ex q2.2 (by dsimp only at *;omega)) λ_ _=>ai0 (aM0 _ _) λ_ _=>ai0 (aM0 _ _) λ_ _=>trivial
   split
   ·rename_i hi
    have h0:=ax0 hE hn hi (by decide)
    refine ai0 (ix.ex h0 (by omega)) λ⟨x,n1⟩ e1=>?_
    have q1:=ig.ex h0 e1
    refine ai0 (ih.block q1.2 (by dsimp only at *;omega)) λ⟨b,n2⟩ e2=>?_
    have q2:=is.block q1.2 e2
    split
    ·rename_i hi2
     have h00:=ax0 hE q2.2 hi2 (by decide)
     exact ai0 (ih.block h00 (by dsimp only at *;omega)) λ_ _=>trivial
    ·exact trivial
   split
   ·rename_i hi
    have h0:=ax0 hE hn hi (by decide)
    refine ai0 (fb0 _) λ⟨t,n1⟩ e1=>ai0 (o50 _ _) λn2 e2=>?_
    have q1:=bh0 hE h0 e1
    have q2:=lL0 hE q1.2 e2
    refine ai0 (ix.ex q2.2 (by dsimp only at *;omega)) λ⟨x,n3⟩ e3=>?_
    have q3:=ig.ex q2.2 e3
    exact ai0 (ih.block q3.2 (by dsimp only at *;omega)) λ_ _=>trivial
   split
   ·rename_i hi
    have h0:=ax0 hE hn hi (by decide)
    exact ai0 (ix.ex h0 (by omega)) λ_ _=>ai0 (aM0 _ _) λ_ _=>trivial
   ·exact dW0 _ (by decide)
end Go.Am
end

section
namespace Go.Am
set_option maxRecDepth 100000
variable {ts:List Tok}
theorem mI0 (hE:TEnd ts):∀ {f:Nat} {out:List Slo} {n:Nat},n<ts.length->16*(ts.length-n)+1<=f->(bI0 ts f out n).live
 | 0,out,n,hn,h=>by omega
 | f+1,out,n,hn,h=>by
  rw[bI0]
  refine ai0 (o40 _) λ⟨s,n1⟩ e1=>?_
  have q1:=iV0 hE hn e1
  dsimp only at *
  split
  ·exact trivial
  ·refine ai0 (aM0 _ _) λn2 e2=>?_
   have q2:=am0 hE q1.2 e2
   exact mI0 hE q2.2 (by omega)
theorem q90 (hE:TEnd ts) {n:Nat} (hn:n<ts.length) {f:Nat} (on:Bool) (h:16*(ts.length-n)+2<=f):(pFun ts f on n).live:=by
 unfold pFun
 refine ai0 (fb0 _) λ⟨t,n1⟩ e1=>ai0 (aM0 _ _) λn2 e2=>?_
 have q1:=bh0 hE hn e1
 have q2:=am0 hE q1.2 e2
 dsimp only at *
 refine ai0 ?_ λ⟨ps,n3⟩ e3=>ai0 (aM0 _ _) λn4 e4=>ai0 (j80 _ _) λ⟨k,n5⟩ e5=>?_
 ·split
  ·exact trivial
  ·exact mI0 hE q2.2 (by omega)
 ·have q3:n2<n3/\n3<ts.length:=by
   split at e3
   ·rename_i hi
    have h0:=ax0 hE q2.2 hi (by decide)
    injection e3 with e3;injection e3 with h1 h2;subst h2;omega
   ·exact gt0 hE q2.2 e3
  have q4:=am0 hE q3.2 e4
  have q5:=fh0 hE q4.2 e5
  exact ai0 ((liveS hE f).block q5.2.1 (by dsimp only at *;omega)) λ_ _=>trivial
theorem ka0 (hE:TEnd ts):∀ {f:Nat} {p:Prg} {n:Nat},n<ts.length->16*(ts.length-n)+3<=f->(fd0 ts f p n).live
 | 0,p,n,hn,h=>by omega
 | f+1,p,n,hn,h=>by
  rw[fd0]
  split
  ·exact trivial
  split
  ·rename_i hi
   have h0:=ax0 hE hn hi (by decide)
   refine ai0 (o40 _) λ⟨s,n1⟩ e1=>ai0 (aM0 _ _) λn2 e2=>?_
   have q1:=iV0 hE h0 e1
   have q2:=am0 hE q1.2 e2
   exact ka0 hE q2.2 (by dsimp only at *;omega)
  split
  ·rename_i hi
   have h0:=ax0 hE hn hi (by decide)
   refine ai0 (q90 hE h0 _ (by omega)) λ⟨s,n1⟩ e1=>?_
   have q1:=k90 hE h0 e1
   exact ka0 hE q1.2 (by dsimp only at *;omega)
  split
  ·rename_i hi
   have h0:=ax0 hE hn hi (by decide)
   refine ai0 (q90 hE h0 _ (by omega)) λ⟨s,n1⟩ e1=>?_
   have q1:=k90 hE h0 e1
   exact ka0 hE q1.2 (by dsimp only at *;omega)
  ·exact dW0 _ (by decide)
theorem tT0 (hE:TEnd ts) (hn:0<ts.length) {f:Nat} (h:16*ts.length+3<=f):(h60 ts f).live:=by
 unfold h60
 refine ai0 (o50 _ _) λn e=>ai0 (pInt_live _) λ⟨v,n1⟩ e1=>ai0 (aM0 _ _) λn2 e2=>?_
 have q:=lL0 hE hn e
 have q1:=r50 hE q.2 e1
 have q2:=am0 hE q1.2 e2
 exact ka0 hE q2.2 (by dsimp only at *;omega)
@[irreducible] def mP0:Nat:=70000
theorem fuelP_eq:mP0=70000:=by unfold mP0;rfl
theorem r70 (s:Bs):(gh0 s mP0).live:=by
 have hg:=gY0 s
 unfold gh0
 cases hx:em0 s with
 | bad a e=>rw[hx] at hg;exact hg.2
 | ok ts =>
  rw[hx] at hg
  obtain⟨o,b,rfl,ho⟩:=hg
  have hl:=tT0 (ts:=o++[⟨5,bS [],0,b⟩]) oN0.tend (by simp) (f:=mP0) (by rw[fuelP_eq,List.length_append];simp only[List.length_cons,List.length_nil];omega)
  dsimp only
  cases hp:h60 (o++[⟨5,bS [],0,b⟩]) mP0 with
  | bad n e=>rw[hp] at hl;exact hl
  | ok q=>exact trivial
@[irreducible] def sd0 (s:Bs):LxR Prg:=gh0 s mP0
theorem m60 (s:Bs):sd0 s=gh0 s mP0:=by unfold sd0;rfl
theorem tk0 (s:ByteArray) (hs:s.size<2 ^ 39):Ret prog dB0 [vS s] (kS0 (sd0 (sB s))):=by
 have h:=fK0 s hs mP0 (r70 _)
 rw[<- m60] at h
 exact h
end Go.Am
end

section
namespace Go.Am
set_option maxRecDepth 100000
structure nj0 (t:Tok):Prop where
 name:t.kind=1->bt0 t.text=false->cT0 (sB t.text)=true
 num:t.kind=2->0<=t.num/\t.num<9223372036854775808
 text:t.kind=3->g70 (sB t.text)=true
theorem sP0:∀ {l:Bs} {n m:Int},l.all aj0.contains=true->0<=n->n<9223372036854775808->numV l n=some m->0<=m/\m<9223372036854775808
 | [],n,m,_,h0,h1,h=>by simp[numV] at h;omega
 | c::l,n,m,hd,h0,h1,h=>by
  rw[numV] at h
  simp only[List.all_cons,Bool.and_eq_true] at hd
  have hc:∀ c∈aj0,48<=c.toNat/\c.toNat<=57:=by decide
  have hc':=hc c (by simpa using hd.1)
  split at h
  ·cases h
  ·rename_i hn
   have h10:=Int.tdiv_eq_ediv_of_nonneg (a:=9223372036854775807-((c.toNat:Int)-48)) (b:=10) (by omega)
   rw[h10] at hn
   exact sP0 hd.2 (by omega) (by omega) h
theorem lg0 {i0:Nat}:∀ {l:Bs} {j:Nat} {acc t:Bs} {m:Nat},(acc.all λc=>decide (32<=c/\c<=126))=true->fN0 i0 l j acc=.ok (t,m)->g70 t=true
 | [],j,acc,t,m,_,h=>by simp[fN0] at h
 | c::l,j,acc,t,m,ha,h=>by
  rw[fN0.eq_def] at h
  simp only at h
  split at h
  ·split at h
   ·cases h
   ·injection h with h;injection h with h1 h2;subst h1
    unfold g70
    rw[ha];simp;omega
  split at h
  ·cases h
  rename_i hc
  split at h
  ·split at h
   ·cases h
   ·split at h
    ·rename_i hd
     refine lg0 ?_ h
     rw[List.all_append,ha]
     rcases hd with rfl|rfl<;>decide
    ·cases h
  ·refine lg0 ?_ h
   rw[List.all_append,ha]
   simp only[List.all_cons,List.all_nil,Bool.and_true,Bool.true_and,decide_eq_true_eq]
   simp only[not_or,UInt8.not_lt] at hc
   exact⟨hc.1,hc.2⟩
theorem ta0 (set s:Bs) (i:Nat):(s.drop i).take (bp0 set s i-i)=(s.drop i).takeWhile λc=>set.contains c:=by
 unfold bp0
 rw[Nat.add_sub_cancel_left]
 exact (List.prefix_iff_eq_take.1 (List.takeWhile_prefix _)).symm
theorem lxOne_ok {s:Bs} {i:Nat} {k:Int} {t:Bs} {n:Int} {j:Nat} (h:iT0 s i=.ok (k,t,n,j)) (a:Int):nj0 ⟨k,bS t,n,a⟩:=by
 unfold iT0 at h
 split at h
 ·cases h
 rename_i c hc
 obtain⟨hi,hci⟩:=List.getElem?_eq_some_iff.1 hc
 have hdr:s.drop i=c::s.drop (i+1):=by rw[List.drop_eq_getElem_cons hi,hci]
 split at h
 ·rename_i hl
  split at h
  ·cases h
  ·rename_i hn
   injection h with h;injection h with h1 h;injection h with h2 h;injection h with h3 h4
   subst h1 h2 h3
   refine⟨λ_ hr=>?_,(by intro h;simp at h),(by intro h;simp at h)⟩
   rw[ta0] at *
   have hdis:∀ c∈an0,aj0.contains c=false:=by decide
   have hlc:(an0++aj0).contains c=true:=by simp at hl ⊢;exact .inl hl
   have hlen:((s.drop i).takeWhile λc=>(an0++aj0).contains c).length<=16:=by
    unfold bp0 at hn;omega
   have hr':mQ0.contains ((s.drop i).takeWhile λc=>(an0++aj0).contains c)=false:=hr
   have hall:((s.drop i).takeWhile λc=>(an0++aj0).contains c).all (λc=>(an0++aj0).contains c)=true:=by
    exact List.all_takeWhile
   show cT0 ((s.drop i).takeWhile λc=>(an0++aj0).contains c)=true
   unfold cT0
   rw[hr',hall]
   have hhd:((s.drop i).takeWhile λc=>(an0++aj0).contains c)=c::(s.drop (i+1)).takeWhile λc=>(an0++aj0).contains c:=by
    rw[hdr,List.takeWhile_cons,if_pos hlc]
   rw[hhd] at hlen ⊢
   have:=hdis c (by simpa using hl)
   simp only[List.headD_cons,this]
   simp at hlen ⊢
   omega
 split at h
 ·split at h
  ·cases h
  ·split at h
   ·cases h
   ·rename_i m hm
    injection h with h;injection h with h1 h;injection h with h2 h;injection h with h3 h4
    subst h1 h2 h3
    refine⟨(by intro h;simp at h),λ_=>?_,(by intro h;simp at h)⟩
    rw[ta0] at hm
    exact sP0 List.all_takeWhile (by omega) (by omega) hm
 split at h
 ·split at h
  ·cases h
  ·rename_i t' j' ht
   injection h with h;injection h with h1 h;injection h with h2 h;injection h with h3 h4
   subst h1 h2 h3
   exact⟨(by intro h;simp at h),(by intro h;simp at h),λ_=>lg0 rfl ht⟩
 split at h
 ·injection h with h;injection h with h1 h;subst h1
  exact⟨(by intro h;simp at h),(by intro h;simp at h),(by intro h;simp at h)⟩
 split at h
 ·injection h with h;injection h with h1 h;subst h1
  exact⟨(by intro h;simp at h),(by intro h;simp at h),(by intro h;simp at h)⟩
 ·cases h
theorem o00 {s:Bs}:∀ {f i:Nat} {out ts:List Tok},(∀ t∈out,nj0 t)->hr0 s f i out=.ok ts->∀ t∈ts,nj0 t
 | 0,i,out,ts,_,h=>by simp[hr0] at h
 | f+1,i,out,ts,ho,h=>by
  rw[hr0] at h
  split at h
  ·split at h
   ·cases h
   ·injection h with h;subst h
    intro t ht
    rcases List.mem_append.1 ht with ht|ht
    ·exact ho t ht
    ·obtain rfl:=List.mem_singleton.1 ht
     exact⟨(by intro h;simp at h),(by intro h;simp at h),(by intro h;simp at h)⟩
  ·split at h
   ·cases h
   ·rename_i k t n j h1
    split at h
    ·cases h
    ·refine o00 (λt ht=>?_) h
     rcases List.mem_append.1 ht with ht|ht
     ·exact ho t ht
     ·obtain rfl:=List.mem_singleton.1 ht
      exact lxOne_ok h1 _
theorem r20 {s:Bs} {ts:List Tok} (h:em0 s=.ok ts):∀ n,nj0 (tk ts n):=by
 unfold em0 at h
 split at h
 ·cases h
 ·have ha:=o00 (λt ht=>by cases ht) h
  intro n
  unfold tk
  rw[List.getD_eq_getElem?_getD]
  cases hn:ts[n]? with
  | none=>exact⟨λh=>absurd h (by decide),λh=>absurd h (by decide),λh=>absurd h (by decide)⟩
  | some t=>exact ha t (List.mem_of_getElem? hn)
end Go.Am
end

section
namespace Go.Am
set_option maxRecDepth 100000
theorem o70:∀ (l:List Exq) (x:Exq),plL (l++[x])=(plL l&&plE x)
 | [],x=>by simp[plL]
 | y::l,x=>by simp only[List.cons_append,plL,o70 l x,Bool.and_assoc]
structure OkE (x:Exq) (k:Nat):Prop where
 sz:plE x=true
 sh:∃ t,shE x=some t/\t.length+100<=1000*k
structure OkL (l:List Exq) (k:Nat):Prop where
 sz:plL l=true
 len:l.length<=k
 sh:∃ ts,shL l=some ts/\(ts.map λt=>t.length+2).sum<=1000*k
theorem OkE.mono {x:Exq} {k k':Nat} (h:OkE x k) (hk:k<=k'):OkE x k':=⟨h.sz,by obtain⟨t,h1,h2⟩:=h.sh;exact⟨t,h1,by omega⟩⟩
theorem OkL.nil (k:Nat):OkL [] k:=⟨rfl,by simp,[],by rw[shL.eq_def],by simp⟩
theorem pa0:∀ {l:List Exq} {x:Exq} {ts:List Bs} {t:Bs},shL l=some ts->shE x=some t->shL (l++[x])=some (ts++[t])
 | [],x,ts,t,h,h2=>by
  rw[shL.eq_def] at h;injection h with h;subst h
  rw[List.nil_append,shL.eq_def];dsimp only;rw[h2,shL.eq_def];rfl
 | y::l,x,ts,t,h,h2=>by
  rw[shL.eq_def] at h
  dsimp only at h
  split at h
  ·rename_i a b ha hb
   injection h with h;subst h
   rw[List.cons_append,shL.eq_def];dsimp only
   rw[ha,pa0 hb h2];rfl
  ·cases h
theorem OkL.snoc {l:List Exq} {x:Exq} {k k2:Nat} (h:OkL l k) (hx:OkE x k2) (h0:1<=k2):OkL (l++[x]) (k+k2):=by
 obtain⟨ts,h1,h2⟩:=h.sh
 obtain⟨t,h3,h4⟩:=hx.sh
 have:=h.len
 refine⟨by rw[o70,h.sz,hx.sz];rfl,by simp;omega,_,pa0 h1 h3,?_⟩
 rw[List.map_append,List.sum_append]
 simp
 omega
theorem OkL.mono {l:List Exq} {k k':Nat} (h:OkL l k) (hk:k<=k'):OkL l k':=⟨h.sz,by have:=h.len;omega,by obtain⟨t,h1,h2⟩:=h.sh;exact⟨t,h1,by omega⟩⟩
theorem s30 (ts:List Bs):(sepB ts).length<=(ts.map λt=>t.length+2).sum:=by
 unfold sepB
 rw[List.length_flatten]
 have:∀ (f:Nat->Bs->Bs) (hf:∀ i t,(f i t).length<=t.length+2) (l:List Bs),((l.mapIdx f).map List.length).sum<=(l.map λt=>t.length+2).sum:=by
  intro f hf l
  induction l generalizing f with
  | nil=>simp
  | cons t l ih =>
   rw[List.mapIdx_cons,List.map_cons,List.sum_cons,List.map_cons,List.sum_cons]
   have:=hf 0 t
   have:=ih (λi=>f (i+1)) λi t=>hf (i+1) t
   omega
 exact this _ (λi t=>by split<;>simp<;>omega) ts
theorem quote_len (s:Bs):(jh0 s).length<=2*s.length+2:=by
 unfold jh0
 have:∀ l:Bs,(l.flatMap λc=>if c=92 then [92,92] else if c=34 then [92,34] else [c]).length<=2*l.length:=by
  intro l
  induction l with
  | nil=>simp
  | cons c l ih =>
   rw[List.flatMap_cons,List.length_append]
   have:(if c=92 then [92,92] else if c=34 then [92,34] else [c]:Bs).length<=2:=by split;simp;split<;>simp
   simp only[List.length_cons];omega
 have:=this s
 simp only[List.length_append,List.length_cons,List.length_nil];omega
theorem cU0 {s:Bs} (h:cT0 s=true):s.length<=16:=by
 unfold cT0 at h
 simp only[Bool.and_eq_true,decide_eq_true_eq] at h
 exact h.1.1.1.2
theorem okE_int {op num:Int} {text:ByteArray} {slot:Int} {type:ByteArray} {at_:Int} (h0:0<=num) (h1:num<9223372036854775808):OkE (.mk 1 op num text slot type [] at_) 1:=by
 refine⟨by rw[plE.eq_def];simp[plL,h1],numB num,by rw[shE.eq_def];simp[h0],?_⟩
 have:=Lib.itoa_length_le num (by omega) (by omega)
 unfold numB;omega
theorem okE_text {op num:Int} {text:ByteArray} {slot:Int} {type:ByteArray} {at_:Int} (h1:num<9223372036854775808) (h:g70 (sB text)=true):OkE (.mk 3 op num text slot type [] at_) 1:=by
 refine⟨by rw[plE.eq_def];simp[plL,h1],jh0 (sB text),by rw[shE.eq_def];simp[h],?_⟩
 have:=quote_len (sB text)
 unfold g70 at h
 simp only[Bool.and_eq_true,decide_eq_true_eq] at h
 omega
theorem sQ0 {op num:Int} {text:ByteArray} {slot:Int} {type:ByteArray} {at_:Int} (h:num=0\/num=1):OkE (.mk 2 op num text slot type [] at_) 1:=by
 refine⟨by rw[plE.eq_def];simp[plL];omega,if num=1 then ge0 else dN0,by rw[shE.eq_def];simp[h],?_⟩
 split<;>simp[ge0,dN0]
theorem okE_name {op num:Int} {text:ByteArray} {slot:Int} {type:ByteArray} {at_:Int} (h1:num<9223372036854775808) (h:cT0 (sB text)=true):OkE (.mk 6 op num text slot type [] at_) 1:=by
 refine⟨by rw[plE.eq_def];simp[plL,h1],sB text,by rw[shE.eq_def];simp[h],?_⟩
 have:=cU0 h;omega
theorem sR0 {op num:Int} {text:ByteArray} {slot:Int} {type:ByteArray} {at_:Int} {args:List Exq} {k:Nat} (h1:num<9223372036854775808) (h:cT0 (sB text)=true) (ha:OkL args k) (hk:k<1073741824) :
  OkE (.mk 7 op num text slot type args at_) (k+1):=by
 have hl:=ha.len
 obtain⟨ts,h2,h3⟩:=ha.sh
 refine⟨by rw[plE.eq_def];simp[ha.sz,h1];omega,sB text++[40]++sepB ts++[41],by rw[shE.eq_def];simp[h,h2],?_⟩
 have:=cU0 h
 have:=s30 ts
 simp only[List.length_append,List.length_cons,List.length_nil];omega
theorem kk0 (s:Bs) (b:Bool):(within s b).length<=s.length+2:=by unfold within;split<;>simp
theorem okE_index {op num:Int} {text:ByteArray} {slot:Int} {type:ByteArray} {at_:Int} {x y:Exq} {k1 k2:Nat} (h1:num<9223372036854775808) (hx:OkE x k1) (hy:OkE y k2) :
  OkE (.mk 12 op num text slot type [x,y] at_) (k1+k2):=by
 obtain⟨a,h2,h3⟩:=hx.sh
 obtain⟨b,h4,h5⟩:=hy.sh
 have hL:shL [x,y]=some [a,b]:=by simp[shL.eq_def,h2,h4]
 refine⟨by rw[plE.eq_def];simp[plL,hx.sz,hy.sz,h1],within a (kz0 x)++[91]++b++[93],by rw[shE.eq_def];simp[hL],?_⟩
 have:=kk0 a (kz0 x)
 simp only[List.length_append,List.length_cons,List.length_nil];omega
theorem okE_un {k op num:Int} {text:ByteArray} {slot:Int} {type:ByteArray} {at_:Int} {x:Exq} {k1:Nat} (hk:k=13\/k=14) (h1:num<9223372036854775808) (hx:OkE x k1) :
  OkE (.mk k op num text slot type [x] at_) (k1+1):=by
 obtain⟨a,h2,h3⟩:=hx.sh
 have hL:shL [x]=some [a]:=by simp[shL.eq_def,h2]
 refine⟨by rw[plE.eq_def];simp[plL,hx.sz,h1],(if k=13 then [45] else [33])++within a (decide (x.kind=15)),by rw[shE.eq_def];rcases hk with rfl|rfl<;>simp[hL],?_⟩
 have:=kk0 a (decide (x.kind=15))
 rw[List.length_append]
 split<;>simp only[List.length_cons,List.length_nil]<;>omega
theorem opB_len (op:Int):(opB op).length<=2:=by
 unfold opB
 generalize op.toNat-1=i
 by_cases h:i<13
 ·have:∀ i<13,(pOps.getD i []).length<=2:=by decide
  exact this i h
 ·rw[List.getD_eq_getElem?_getD,List.getElem?_eq_none (by simp[pOps,a90];omega)];simp
theorem okE_bin {op num:Int} {text:ByteArray} {slot:Int} {type:ByteArray} {at_:Int} {x y:Exq} {k1 k2:Nat} (h1:num<9223372036854775808) (ho:opOk op=true) (hx:OkE x k1) (hy:OkE y k2) :
  OkE (.mk 15 op num text slot type [x,y] at_) (k1+k2):=by
 obtain⟨a,h2,h3⟩:=hx.sh
 obtain⟨b,h4,h5⟩:=hy.sh
 have hL:shL [x,y]=some [a,b]:=by simp[shL.eq_def,h2,h4]
 refine⟨by rw[plE.eq_def];simp[plL,hx.sz,hy.sz,h1],within a (cj0 x (if lvl op=3 then 4 else lvl op))++[32]++opB op++[32]++within b (cj0 y (lvl op+1)),by rw[shE.eq_def];simp[hL,ho],?_⟩
 have:=kk0 a (cj0 x (if lvl op=3 then 4 else lvl op))
 have:=kk0 b (cj0 y (lvl op+1))
 have:=opB_len op
 simp only[List.length_append,List.length_cons,List.length_nil];omega
theorem tJ0 {l:Nat} {t:Tok} (h:cK0 l t=true):opOk ((pOps.idxOf (sB t.text):Nat)+1)=true:=by
 unfold cK0 at h
 simp only[Bool.and_eq_true,decide_eq_true_eq] at h
 have hl:l<5:=by
  rcases Nat.lt_or_ge l 5 with h5|h5
  ·exact h5
  ·have h2:=h.2
   rw[List.getD_eq_getElem?_getD,List.getElem?_eq_none (by simp[a90];omega)] at h2
   simp at h2
 have hm:sB t.text∈pOps:=by
  have h2:sB t.text∈a90.getD l []:=by simpa using h.2
  unfold pOps
  rw[List.mem_flatten]
  refine⟨a90.getD l [],?_,h2⟩
  rw[List.getD_eq_getElem?_getD,List.getElem?_eq_getElem (by simp[a90];omega)]
  exact List.getElem_mem _
 have:=List.idxOf_lt_length_of_mem hm
 have h13:pOps.length=13:=rfl
 unfold opOk
 simp only[decide_eq_true_eq]
 omega
end Go.Am
end

section
namespace Go.Am
set_option maxRecDepth 100000
variable {ts:List Tok}
theorem hO0 (hT:∀ n,nj0 (tk ts n)) {n:Nat} {a:Tok} {m:Nat} (h:df0 ts n=.ok (a,m)):cT0 (sB a.text)=true/\m=n+1:=by
 unfold df0 at h
 split at h
 ·rename_i hk
  injection h with h;injection h with h1 h2;subst h1 h2
  exact⟨(hT n).name hk.1 hk.2,rfl⟩
 ·cases h
structure OkX (ts:List Tok) (f:Nat):Prop where
 ex:∀ {d n:Nat} {a:Exq} {m:Nat},n<ts.length->by0 ts f d n=.ok (a,m)->OkE a (m-n)
 bin:∀ {l d n:Nat} {a:Exq} {m:Nat},n<ts.length->pBin ts f l d n=.ok (a,m)->OkE a (m-n)
 loop:∀ {l d:Nat} {out:Exq} {n k:Nat} {a:Exq} {m:Nat},n<ts.length->OkE out k->ex0 ts f l d out n=.ok (a,m)->OkE a (k+(m-n))
 un:∀ {d n:Nat} {a:Exq} {m:Nat},n<ts.length->pUn ts f d n=.ok (a,m)->OkE a (m-n)
 post:∀ {d:Nat} {out:Exq} {n k:Nat} {a:Exq} {m:Nat},n<ts.length->OkE out k->fc0 ts f d out n=.ok (a,m)->OkE a (k+(m-n))
 prim:∀ {d n:Nat} {a:Exq} {m:Nat},n<ts.length->ec0 ts f d n=.ok (a,m)->OkE a (m-n)
 args:∀ {d:Nat} {out:List Exq} {n k:Nat} {a:List Exq} {m:Nat},n<ts.length->OkL out k->eP0 ts f d out n=.ok (a,m)->OkL a (k+(m-n))
theorem okX (hE:TEnd ts) (hT:∀ n,nj0 (tk ts n)) (hL:ts.length<1073741824):∀ f,OkX ts f
 | 0=>⟨λ_ h=>by simp[by0] at h,λ_ h=>by simp[pBin] at h,λ_ _ h=>by simp[ex0] at h,λ_ h=>by simp[pUn] at h,λ_ _ h=>by simp[fc0] at h,λ_ h=>by simp[ec0] at h,λ_ _ h=>by simp[eP0] at h⟩
 | f+1=>by
  have ih:=okX hE hT hL f
  have ig:=k50 hE f
  refine⟨λhn h=>?_,λhn h=>?_,λhn ho h=>?_,λhn h=>?_,λhn ho h=>?_,λhn h=>?_,λhn ho h=>?_⟩
  ·rw[by0] at h
   obtain⟨_,_,h⟩:=ag0 h
   exact ih.bin hn h
  ·rw[pBin] at h
   split at h
   ·exact ih.un hn h
   ·obtain⟨⟨b,n1⟩,e1,h⟩:=ag0 h
    have q1:=ig.bin hn e1
    have q2:=ig.loop q1.2 h
    exact (ih.loop q1.2 (ih.bin hn e1) h).mono (by dsimp only at *;omega)
  ·rw[ex0] at h
   split at h
   ·rename_i hi
    have h0:=hE _ hn (by rw[jD0 hi];decide)
    obtain⟨⟨b,n1⟩,e1,h⟩:=ag0 h
    have q1:=ig.bin h0 e1
    have hb:=λ(at_:Int)=>okE_bin (num:=0) (text:=bS []) (slot:=0) (type:=bS []) (at_:=at_) (by decide) (tJ0 hi) ho (ih.bin h0 e1)
    dsimp only at *
    split at h
    ·split at h
     ·cases h
     ·injection h with h;injection h with h1 h2;subst h1 h2;exact (hb _).mono (by omega)
    ·have q2:=ig.loop q1.2 h
     exact (ih.loop q1.2 (hb _) h).mono (by omega)
   ·injection h with h;injection h with h1 h2;subst h1 h2;exact ho.mono (by omega)
  ·rw[pUn] at h
   split at h
   ·rename_i hi
    have h0:=ax0 hE hn hi (by decide)
    obtain⟨_,_,h⟩:=ag0 h
    obtain⟨⟨b,n1⟩,e1,h⟩:=ag0 h
    have q1:=ig.un h0 e1
    injection h with h;injection h with h1 h2;subst h1 h2
    exact (okE_un (.inl rfl) (by decide) (ih.un h0 e1)).mono (by dsimp only at *;omega)
   split at h
   ·rename_i hi
    have h0:=ax0 hE hn hi (by decide)
    obtain⟨_,_,h⟩:=ag0 h
    obtain⟨⟨b,n1⟩,e1,h⟩:=ag0 h
    have q1:=ig.un h0 e1
    injection h with h;injection h with h1 h2;subst h1 h2
    exact (okE_un (.inr rfl) (by decide) (ih.un h0 e1)).mono (by dsimp only at *;omega)
   ·obtain⟨⟨b,n1⟩,e1,h⟩:=ag0 h
    have q1:=ig.prim hn e1
    have q2:=ig.post q1.2 h
    exact (ih.post q1.2 (ih.prim hn e1) h).mono (by dsimp only at *;omega)
  ·rw[fc0] at h
   split at h
   ·rename_i hi
    have h0:=ax0 hE hn hi (by decide)
    obtain⟨⟨b,n1⟩,e1,h⟩:=ag0 h
    obtain⟨n2,e2,h⟩:=ag0 h
    have q1:=ig.ex h0 e1
    have q2:=am0 hE q1.2 e2
    have q3:=ig.post q2.2 h
    exact (ih.post q2.2 (okE_index (by decide) ho (ih.ex h0 e1)) h).mono (by dsimp only at *;omega)
   ·injection h with h;injection h with h1 h2;subst h1 h2;exact ho.mono (by omega)
  ·rw[ec0] at h
   split at h
   ·rename_i hk
    have hx:=(hT _).num hk
    injection h with h;injection h with h1 h2;subst h1 h2;exact (okE_int hx.1 hx.2).mono (by omega)
   split at h
   ·rename_i hk
    have hx:=(hT _).text hk
    injection h with h;injection h with h1 h2;subst h1 h2;exact (okE_text (by decide) hx).mono (by omega)
   split at h
   ·injection h with h;injection h with h1 h2;subst h1 h2;exact (sQ0 (.inr rfl)).mono (by omega)
   split at h
   ·injection h with h;injection h with h1 h2;subst h1 h2;exact (sQ0 (.inl rfl)).mono (by omega)
   split at h
   ·rename_i hi
    have h0:=ax0 hE hn hi (by decide)
    obtain⟨⟨b,n1⟩,e1,h⟩:=ag0 h
    obtain⟨n2,e2,h⟩:=ag0 h
    have q1:=ig.ex h0 e1
    have q2:=am0 hE q1.2 e2
    injection h with h;injection h with h1 h2;subst h1 h2
    exact (ih.ex h0 e1).mono (by dsimp only at *;omega)
   ·obtain⟨⟨b,n1⟩,e1,h⟩:=ag0 h
    have q1:=bh0 hE hn e1
    obtain⟨hnm,rfl⟩:=hO0 hT e1
    split at h
    ·rename_i hi
     have h0:=ax0 hE q1.2 hi (by decide)
     split at h
     ·injection h with h;injection h with h1 h2;subst h1 h2
      exact (sR0 (by decide) hnm (.nil 0) (by decide)).mono (by omega)
     ·obtain⟨⟨b2,n2⟩,e4,h⟩:=ag0 h
      have q2:=ig.args h0 e4
      injection h with h;injection h with h1 h2;subst h1 h2
      exact (sR0 (by decide) hnm (ih.args h0 (.nil 0) e4) (by dsimp only at *;omega)).mono (by dsimp only at *;omega)
    ·injection h with h;injection h with h1 h2;subst h1 h2
     exact (okE_name (by decide) hnm).mono (by omega)
  ·rw[eP0] at h
   obtain⟨⟨b,n1⟩,e1,h⟩:=ag0 h
   have q1:=ig.ex hn e1
   dsimp only at *
   have hx:=ho.snoc (ih.ex hn e1) (by omega)
   split at h
   ·injection h with h;injection h with h1 h2;subst h1 h2;exact hx.mono (by omega)
   ·obtain⟨n2,e2,h⟩:=ag0 h
    have q2:=am0 hE q1.2 e2
    have q3:=ig.args q2.2 h
    exact (ih.args q2.2 hx h).mono (by omega)
end Go.Am
end

section
namespace Go.Am
set_option maxRecDepth 100000
variable {ts:List Tok}
theorem o60:∀ (l:List Stm) (x:Stm),plB (l++[x])=(plB l&&plS x)
 | [],x=>by simp[plB]
 | y::l,x=>by simp only[List.cons_append,plB,o60 l x,Bool.and_assoc]
structure OkS (x:Stm) (k d:Nat):Prop where
 sz:plS x=true
 sh:∀ n,n<=d+1->∃ t,shS n x=some t/\t.length+100<=1000*k
structure OkT (l:List Stm) (k d:Nat):Prop where
 sz:plB l=true
 len:l.length<=k
 sh:∀ n,n<=d->∃ t,shT n l=some t/\t.length<=1000*k
structure OkB (l:List Stm) (k d:Nat):Prop where
 sz:plB l=true
 len:l.length<=k
 sh:∀ n,n<=d->∃ t,shB n l=some t/\t.length+100<=1000*k
theorem OkS.mono {x:Stm} {k k' d:Nat} (h:OkS x k d) (hk:k<=k'):OkS x k' d:=⟨h.sz,λn hn=>by obtain⟨t,h1,h2⟩:=h.sh n hn;exact⟨t,h1,by omega⟩⟩
theorem OkT.mono {x:List Stm} {k k' d:Nat} (h:OkT x k d) (hk:k<=k'):OkT x k' d:=⟨h.sz,by have:=h.len;omega,λn hn=>by obtain⟨t,h1,h2⟩:=h.sh n hn;exact⟨t,h1,by omega⟩⟩
theorem OkT.nil (k d:Nat):OkT [] k d:=⟨rfl,by simp,λn hn=>⟨[],by rw[shT.eq_def],by simp⟩⟩
theorem pb0 {n:Nat}:∀ {l:List Stm} {x:Stm} {t a:Bs},shT n l=some t->shS (n+1) x=some a->shT n (l++[x])=some (t++(tabs (n+1)++a++[10]))
 | [],x,t,a,h,h2=>by
  rw[shT.eq_def] at h;injection h with h;subst h
  rw[List.nil_append,shT.eq_def];dsimp only;rw[h2,shT.eq_def];simp
 | y::l,x,t,a,h,h2=>by
  rw[shT.eq_def] at h
  dsimp only at h
  split at h
  ·rename_i a' b ha hb
   injection h with h;subst h
   rw[List.cons_append,shT.eq_def];dsimp only
   rw[ha,pb0 hb h2];simp
  ·cases h
theorem OkT.snoc {l:List Stm} {x:Stm} {k k2 d:Nat} (h:OkT l k d) (hx:OkS x k2 d) (hd:d<=24):OkT (l++[x]) (k+k2) d:=by
 have:=h.len
 have h1k:1<=k2:=by
  obtain⟨t,_,h4⟩:=hx.sh 0 (by omega)
  omega
 refine⟨by rw[o60,h.sz,hx.sz];rfl,by simp;omega,λn hn=>?_⟩
 obtain⟨t,h1,h2⟩:=h.sh n hn
 obtain⟨a,h3,h4⟩:=hx.sh (n+1) (by omega)
 refine⟨_,pb0 h1 h3,?_⟩
 have:(tabs (n+1)).length=n+1:=by simp[tabs]
 simp only[List.length_append,List.length_cons,List.length_nil];omega
theorem OkT.block {l:List Stm} {k d:Nat} (h:OkT l k d) (hd:d<=24):OkB l (k+1) d:=by
 refine⟨h.sz,by have:=h.len;omega,λn hn=>?_⟩
 cases l with
 | nil=>exact⟨[123,125],by rw[shB.eq_def],by simp;omega⟩
 | cons x l =>
  obtain⟨t,h1,h2⟩:=h.sh n hn
  refine⟨[123,10]++t++tabs n++[125],by rw[lS0,h1];rfl,?_⟩
  have:(tabs n).length=n:=by simp[tabs]
  simp only[List.length_append,List.length_cons,List.length_nil];omega
theorem mn0 {x:Exq} {a:Bs} (h:shE x=some a):shL [x]=some [a]:=by simp[shL.eq_def,h]
theorem shL_two {x y:Exq} {a b:Bs} (h:shE x=some a) (h2:shE y=some b):shL [x,y]=some [a,b]:=by simp[shL.eq_def,h,h2]
theorem okS_let {name:ByteArray} {x:Exq} {k d:Nat} {at_:Int} (hn:cT0 (sB name)=true) (hx:OkE x k):OkS (stm0 1 name [x] [] [] at_) (k+1) d:=by
 obtain⟨a,h1,h2⟩:=hx.sh
 refine⟨by unfold stm0;rw[plS.eq_def];simp[plL,plB,hx.sz],λn _=>⟨ev0++[32]++sB name++[32,61,32]++a++[59],by unfold stm0;rw[shS.eq_def];simp[mn0 h1,hn],?_⟩⟩
 have:=cU0 hn
 simp only[List.length_append,List.length_cons,List.length_nil,ev0];omega
theorem okS_set {name:ByteArray} {x:Exq} {k d:Nat} {at_:Int} (hn:cT0 (sB name)=true) (hx:OkE x k):OkS (stm0 2 name [x] [] [] at_) (k+1) d:=by
 obtain⟨a,h1,h2⟩:=hx.sh
 refine⟨by unfold stm0;rw[plS.eq_def];simp[plL,plB,hx.sz],λn _=>⟨cS0++[32]++sB name++[32,61,32]++a++[59],by unfold stm0;rw[shS.eq_def];simp[mn0 h1,hn],?_⟩⟩
 have:=cU0 hn
 simp only[List.length_append,List.length_cons,List.length_nil,cS0];omega
theorem okS_put {name:ByteArray} {x y:Exq} {k k2 d:Nat} {at_:Int} (hn:cT0 (sB name)=true) (hx:OkE x k) (hy:OkE y k2):OkS (stm0 2 name [x,y] [] [] at_) (k+k2+1) d:=by
 obtain⟨a,h1,h2⟩:=hx.sh
 obtain⟨b,h3,h4⟩:=hy.sh
 refine⟨by unfold stm0;rw[plS.eq_def];simp[plL,plB,hx.sz,hy.sz],λn _=>⟨cS0++[32]++sB name++[91]++a++[93]++[32,61,32]++b++[59],by unfold stm0;rw[shS.eq_def];simp[shL_two h1 h3,hn],?_⟩⟩
 have:=cU0 hn
 simp only[List.length_append,List.length_cons,List.length_nil,cS0];omega
theorem okS_del {name:ByteArray} {x:Exq} {k d:Nat} {at_:Int} (hn:cT0 (sB name)=true) (hx:OkE x k):OkS (stm0 3 name [x] [] [] at_) (k+1) d:=by
 obtain⟨a,h1,h2⟩:=hx.sh
 refine⟨by unfold stm0;rw[plS.eq_def];simp[plL,plB,hx.sz],λn _=>⟨es0++[32]++sB name++[91]++a++[93,59],by unfold stm0;rw[shS.eq_def];simp[mn0 h1,hn],?_⟩⟩
 have:=cU0 hn
 simp only[List.length_append,List.length_cons,List.length_nil,es0];omega
theorem okS_if {name:ByteArray} {x:Exq} {k kb kc d:Nat} {body els:List Stm} {at_:Int} (hx:OkE x k) (hb:OkB body kb (d+1)) (hc:els=[]\/OkB els kc (d+1)) (hk:kb+kc<1073741824) :
  OkS (stm0 4 name [x] body els at_) (k+kb+kc+1) d:=by
 obtain⟨a,h1,h2⟩:=hx.sh
 have hbl:=hb.len
 have hcz:plB els=true/\els.length<1073741824:=by
  rcases hc with rfl|hc
  ·exact⟨rfl,by simp⟩
  ·exact⟨hc.sz,by have:=hc.len;omega⟩
 refine⟨by unfold stm0;rw[plS.eq_def];simp[plL,hb.sz,hcz.1,hx.sz,hcz.2];omega,λn hn=>?_⟩
 obtain⟨b,h3,h4⟩:=hb.sh n hn
 have hcs:∃ c,shB n els=some c/\(if els=[] then ([]:Bs) else [32]++bs0++[32]++c).length<=1000*kc:=by
  by_cases he:els=[]
  ·subst he;exact⟨[123,125],by rw[shB.eq_def],by simp⟩
  ·rcases hc with hc|hc
   ·exact absurd hc he
   ·obtain⟨c,h5,h6⟩:=hc.sh n hn
    refine⟨c,h5,?_⟩
    rw[if_neg he];simp only[List.length_append,List.length_cons,List.length_nil,bs0];omega
 obtain⟨c,h5,h6⟩:=hcs
 refine⟨kwIf++[32]++a++[32]++b++(if els=[] then [] else [32]++bs0++[32]++c),by unfold stm0;rw[shS.eq_def];simp[mn0 h1,h3,h5],?_⟩
 rw[List.length_append]
 generalize (if els=[] then ([]:Bs) else [32]++bs0++[32]++c).length=q at *
 simp only[List.length_append,List.length_cons,List.length_nil,kwIf];omega
theorem okS_for {name:ByteArray} {x:Exq} {k kb d:Nat} {body:List Stm} {at_:Int} (hn:cT0 (sB name)=true) (hx:OkE x k) (hb:OkB body kb (d+1)) (hk:kb<1073741824) :
  OkS (stm0 5 name [x] body [] at_) (k+kb+1) d:=by
 obtain⟨a,h1,h2⟩:=hx.sh
 have hbl:=hb.len
 have:=cU0 hn
 refine⟨by unfold stm0;rw[plS.eq_def];simp[plL,hb.sz,plB,hx.sz];omega,λn hn'=>?_⟩
 obtain⟨b,h3,h4⟩:=hb.sh n hn'
 refine⟨et0++[32]++sB name++[32]++kwTo++[32]++a++[32]++b,by unfold stm0;rw[shS.eq_def];simp[mn0 h1,h3,hn],?_⟩
 simp only[List.length_append,List.length_cons,List.length_nil,et0,kwTo];omega
theorem okS_ret {name:ByteArray} {x:Exq} {k d:Nat} {at_:Int} (hx:OkE x k):OkS (stm0 6 name [x] [] [] at_) (k+1) d:=by
 obtain⟨a,h1,h2⟩:=hx.sh
 refine⟨by unfold stm0;rw[plS.eq_def];simp[plL,plB,hx.sz],λn _=>⟨ew0++[32]++a++[59],by unfold stm0;rw[shS.eq_def];simp[mn0 h1],?_⟩⟩
 simp only[List.length_append,List.length_cons,List.length_nil,ew0];omega
end Go.Am
end

section
namespace Go.Am
set_option maxRecDepth 100000
variable {ts:List Tok}
theorem pDeep_le {n d:Nat} {u:Unit} (h:hs0 ts n d=.ok u):d<=24:=by
 unfold hs0 at h
 split at h
 ·cases h
 ·exact Nat.le_of_not_lt ‹_›
structure OkG (ts:List Tok) (f:Nat):Prop where
 block:∀ {d n:Nat} {a:List Stm} {m:Nat},n<ts.length->bc0 ts f d n=.ok (a,m)->OkB a (m-n) d
 stms:∀ {d:Nat} {out:List Stm} {n k:Nat} {a:List Stm} {m:Nat},n<ts.length->d<=24->OkT out k d->g40 ts f d out n=.ok (a,m)->OkT a (k+(m-n)) d
 stm:∀ {d n:Nat} {a:Stm} {m:Nat},n<ts.length->pStm ts f d n=.ok (a,m)->OkS a (m-n) d
theorem okG (hE:TEnd ts) (hT:∀ n,nj0 (tk ts n)) (hL:ts.length<1073741824):∀ f,OkG ts f
 | 0=>⟨λ_ h=>by simp[bc0] at h,λ_ _ _ h=>by simp[g40] at h,λ_ h=>by simp[pStm] at h⟩
 | f+1=>by
  have ih:=okG hE hT hL f
  have io:=okX hE hT hL f
  have ix:=k50 hE f
  have is:=nG0 hE f
  refine⟨λhn h=>?_,λhn hd ho h=>?_,λhn h=>?_⟩
  ·rw[bc0] at h
   obtain⟨_,e0,h⟩:=ag0 h
   obtain⟨n1,e1,h⟩:=ag0 h
   have hd:=pDeep_le e0
   have q1:=am0 hE hn e1
   have q2:=is.stms q1.2 h
   have:=(ih.stms q1.2 hd (.nil 0 _) h).block hd
   exact⟨this.sz,by have:=this.len;omega,λn hn=>by obtain⟨t,h1,h2⟩:=this.sh n hn;exact⟨t,h1,by omega⟩⟩
  ·rw[g40] at h
   split at h
   ·injection h with h;injection h with h1 h2;subst h1 h2;exact ho.mono (by omega)
   ·obtain⟨⟨s,n1⟩,e1,h⟩:=ag0 h
    have q1:=is.stm hn e1
    have q2:=is.stms q1.2 h
    exact (ih.stms q1.2 hd (ho.snoc (ih.stm hn e1) hd) h).mono (by dsimp only at *;omega)
  ·rw[pStm] at h
   split at h
   ·rename_i hi
    have h0:=ax0 hE hn hi (by decide)
    obtain⟨⟨t,n1⟩,e1,h⟩:=ag0 h
    obtain⟨n2,e2,h⟩:=ag0 h
    obtain⟨⟨x,n3⟩,e3,h⟩:=ag0 h
    obtain⟨n4,e4,h⟩:=ag0 h
    have q1:=bh0 hE h0 e1
    have q2:=am0 hE q1.2 e2
    have q3:=ix.ex q2.2 e3
    have q4:=am0 hE q3.2 e4
    injection h with h;injection h with h1 h2;subst h1 h2
    exact (okS_let (hO0 hT e1).1 (io.ex q2.2 e3)).mono (by dsimp only at *;omega)
   split at h
   ·rename_i hi
    have h0:=ax0 hE hn hi (by decide)
    obtain⟨⟨t,n1⟩,e1,h⟩:=ag0 h
    have q1:=bh0 hE h0 e1
    split at h
    ·rename_i hi2
     have h00:=ax0 hE q1.2 hi2 (by decide)
     obtain⟨⟨x,n3⟩,e3,h⟩:=ag0 h
     obtain⟨n4,e4,h⟩:=ag0 h
     obtain⟨n5,e5,h⟩:=ag0 h
     obtain⟨⟨y,n6⟩,e6,h⟩:=ag0 h
     obtain⟨n7,e7,h⟩:=ag0 h
     have q3:=ix.ex h00 e3
     have q4:=am0 hE q3.2 e4
     have q5:=am0 hE q4.2 e5
     have q6:=ix.ex q5.2 e6
     have q7:=am0 hE q6.2 e7
     injection h with h;injection h with h1 h2;subst h1 h2
     exact (okS_put (hO0 hT e1).1 (io.ex h00 e3) (io.ex q5.2 e6)).mono (by dsimp only at *;omega)
    ·obtain⟨n2,e2,h⟩:=ag0 h
     obtain⟨⟨x,n3⟩,e3,h⟩:=ag0 h
     obtain⟨n4,e4,h⟩:=ag0 h
     have q2:=am0 hE q1.2 e2
     have q3:=ix.ex q2.2 e3
     have q4:=am0 hE q3.2 e4
     injection h with h;injection h with h1 h2;subst h1 h2
     exact (okS_set (hO0 hT e1).1 (io.ex q2.2 e3)).mono (by dsimp only at *;omega)
   split at h
   ·rename_i hi
    have h0:=ax0 hE hn hi (by decide)
    obtain⟨⟨t,n1⟩,e1,h⟩:=ag0 h
    obtain⟨n2,e2,h⟩:=ag0 h
    obtain⟨⟨x,n3⟩,e3,h⟩:=ag0 h
    obtain⟨n4,e4,h⟩:=ag0 h
    obtain⟨n5,e5,h⟩:=ag0 h
    have q1:=bh0 hE h0 e1
    have q2:=am0 hE q1.2 e2
    have q3:=ix.ex q2.2 e3
    have q4:=am0 hE q3.2 e4
    have q5:=am0 hE q4.2 e5
    injection h with h;injection h with h1 h2;subst h1 h2
    exact (okS_del (hO0 hT e1).1 (io.ex q2.2 e3)).mono (by dsimp only at *;omega)
   split at h
   ·rename_i hi
    have h0:=ax0 hE hn hi (by decide)
    obtain⟨⟨x,n1⟩,e1,h⟩:=ag0 h
    have q1:=ix.ex h0 e1
    obtain⟨⟨b,n2⟩,e2,h⟩:=ag0 h
    have q2:=is.block q1.2 e2
    split at h
    ·rename_i hi2
     have h00:=ax0 hE q2.2 hi2 (by decide)
     obtain⟨⟨c,n3⟩,e3,h⟩:=ag0 h
     have q3:=is.block h00 e3
     injection h with h;injection h with h1 h2;subst h1 h2
     exact (okS_if (io.ex h0 e1) (ih.block q1.2 e2) (.inr (ih.block h00 e3)) (by dsimp only at *;omega)).mono (by dsimp only at *;omega)
    ·injection h with h;injection h with h1 h2;subst h1 h2
     exact (okS_if (kc:=0) (io.ex h0 e1) (ih.block q1.2 e2) (.inl rfl) (by dsimp only at *;omega)).mono (by dsimp only at *;omega)
   split at h
   ·rename_i hi
    have h0:=ax0 hE hn hi (by decide)
    obtain⟨⟨t,n1⟩,e1,h⟩:=ag0 h
    obtain⟨n2,e2,h⟩:=ag0 h
    obtain⟨⟨x,n3⟩,e3,h⟩:=ag0 h
    obtain⟨⟨b,n4⟩,e4,h⟩:=ag0 h
    have q1:=bh0 hE h0 e1
    have q2:=lL0 hE q1.2 e2
    have q3:=ix.ex q2.2 e3
    have q4:=is.block q3.2 e4
    injection h with h;injection h with h1 h2;subst h1 h2
    exact (okS_for (hO0 hT e1).1 (io.ex q2.2 e3) (ih.block q3.2 e4) (by dsimp only at *;omega)).mono (by dsimp only at *;omega)
   split at h
   ·rename_i hi
    have h0:=ax0 hE hn hi (by decide)
    obtain⟨⟨x,n1⟩,e1,h⟩:=ag0 h
    obtain⟨n2,e2,h⟩:=ag0 h
    have q1:=ix.ex h0 e1
    have q2:=am0 hE q1.2 e2
    injection h with h;injection h with h1 h2;subst h1 h2
    exact (okS_ret (io.ex h0 e1)).mono (by dsimp only at *;omega)
   ·cases h
theorem pKey_ty {n:Nat} {a:Bs} {m:Nat} (h:pKey ts n=.ok (a,m)):a=eu0\/a=ck0:=by
 unfold pKey at h
 split at h
 ·injection h with h;injection h with h1 h2;exact .inl h1.symm
 split at h
 ·injection h with h;injection h with h1 h2;exact .inr h1.symm
 ·cases h
theorem pV0:∀ {r n:Nat} {a:Bs} {m:Nat},cV0 ts r n=.ok (a,m)->∃ d,IsTy d a/\d<=r
 | 0,n,a,m,h=>by simp[cV0,eS0] at h
 | r+1,n,a,m,h=>by
  rw[cV0] at h
  split at h
  ·injection h with h;injection h with h1 h2;subst h1;exact⟨1,.base (by decide),by omega⟩
  split at h
  ·obtain⟨⟨b,n1⟩,e1,h⟩:=ag0 h
   obtain⟨n2,e2,h⟩:=ag0 h
   injection h with h;injection h with h1 h2;subst h1
   obtain⟨d,hd,hr⟩:=pV0 e1
   exact⟨d+1,.list hd,by omega⟩
  split at h
  ·obtain⟨⟨k,n0⟩,e0,h⟩:=ag0 h
   obtain⟨n1,e1,h⟩:=ag0 h
   obtain⟨⟨b,n2⟩,e2,h⟩:=ag0 h
   obtain⟨n3,e3,h⟩:=ag0 h
   injection h with h;injection h with h1 h2;subst h1
   obtain⟨d,hd,hr⟩:=pV0 e2
   rcases pKey_ty e0 with rfl|rfl
   ·exact⟨d+1,.mapI hd,by omega⟩
   ·exact⟨d+1,.mapT hd,by omega⟩
  ·rcases pKey_ty h with rfl|rfl
   ·exact⟨1,.base (by decide),by omega⟩
   ·exact⟨1,.base (by decide),by omega⟩
theorem nV0 {n:Nat} {a:Bs} {m:Nat} (h:cV0 ts 4 n=.ok (a,m)):sk0 a=true/\a.length<=28:=by
 obtain⟨d,hd,hr⟩:=pV0 h
 refine⟨?_,?_⟩
 ·unfold sk0;rw[tyB_ty hd];simp;omega
 ·have:a.length<=7*d:=by
   clear h hr
   induction hd with
   | base h=>rcases fD0 h with rfl|rfl|rfl<;>simp[eu0,ek0,ck0]
   | list h ih=>simp;omega
   | mapI h ih=>simp[cl0];omega
   | mapT h ih=>simp[bz0];omega
  omega
theorem sU0 (hT:∀ n,nj0 (tk ts n)) {n:Nat} {a:Slo} {m:Nat} (h:iv0 ts n=.ok (a,m)):∃ t,fB0 a=some t/\t.length<=60:=by
 unfold iv0 at h
 obtain⟨⟨t,n1⟩,e1,h⟩:=ag0 h
 obtain⟨n2,e2,h⟩:=ag0 h
 obtain⟨⟨k,n3⟩,e3,h⟩:=ag0 h
 injection h with h;injection h with h1 h2;subst h1
 have hn:=(hO0 hT e1).1
 have hk:=nV0 e3
 refine⟨sB t.text++[58,32]++k,by unfold fB0;simp[hn,hk.1],?_⟩
 have:=cU0 hn
 simp only[List.length_append,List.length_cons,List.length_nil];omega
end Go.Am
end

section
namespace Go.Am
set_option maxRecDepth 100000
variable {ts:List Tok}
theorem kU0:∀ {l:List Slo} {x:Slo} {ps:List Bs} {t:Bs},bA0 l=some ps->fB0 x=some t->bA0 (l++[x])=some (ps++[t])
 | [],x,ps,t,h,h2=>by
  rw[bA0.eq_def] at h;injection h with h;subst h
  rw[List.nil_append,bA0.eq_def];dsimp only;rw[h2,bA0.eq_def];rfl
 | y::l,x,ps,t,h,h2=>by
  rw[bA0.eq_def] at h
  dsimp only at h
  split at h
  ·rename_i a b ha hb
   injection h with h;subst h
   rw[List.cons_append,bA0.eq_def];dsimp only
   rw[ha,kU0 hb h2];rfl
  ·cases h
theorem jR0:∀ {l:List Slo} {x:Slo} {a t:Bs},bC0 l=some a->fB0 x=some t->bC0 (l++[x])=some (a++(dO0++[32]++t++[59,10]))
 | [],x,a,t,h,h2=>by
  rw[bC0.eq_def] at h;injection h with h;subst h
  rw[List.nil_append,bC0.eq_def];dsimp only;rw[h2,bC0.eq_def];simp
 | y::l,x,a,t,h,h2=>by
  rw[bC0.eq_def] at h
  dsimp only at h
  split at h
  ·rename_i b c ha hb
   injection h with h;subst h
   rw[List.cons_append,bC0.eq_def];dsimp only
   rw[ha,jR0 hb h2];simp
  ·cases h
theorem lT0:∀ {l:List Fun} {x:Fun} {a t:Bs},dX0 l=some a->ml0 x=some t->dX0 (l++[x])=some (a++t)
 | [],x,a,t,h,h2=>by
  rw[dX0.eq_def] at h;injection h with h;subst h
  rw[List.nil_append,dX0.eq_def];dsimp only;rw[h2,dX0.eq_def];simp
 | y::l,x,a,t,h,h2=>by
  rw[dX0.eq_def] at h
  dsimp only at h
  split at h
  ·rename_i b c ha hb
   injection h with h;subst h
   rw[List.cons_append,dX0.eq_def];dsimp only
   rw[ha,lT0 hb h2];simp
  ·cases h
structure OkPs (l:List Slo) (k:Nat):Prop where
 len:l.length<=k
 sh:∃ ps,bA0 l=some ps/\(ps.map λt=>t.length+2).sum<=100*k
theorem OkPs.nil:OkPs [] 0:=⟨by simp,[],by rw[bA0.eq_def],by simp⟩
theorem OkPs.snoc {l:List Slo} {x:Slo} {k:Nat} (h:OkPs l k) (hx:∃ t,fB0 x=some t/\t.length<=60):OkPs (l++[x]) (k+1):=by
 obtain⟨t,h1,h2⟩:=hx
 obtain⟨ps,h3,h4⟩:=h.sh
 have:=h.len
 refine⟨by simp;omega,_,kU0 h3 h1,?_⟩
 rw[List.map_append,List.sum_append];simp;omega
theorem o30 (hE:TEnd ts) (hT:∀ n,nj0 (tk ts n)):∀ {f:Nat} {out:List Slo} {n k:Nat},n<ts.length->OkPs out k->∀ {a:List Slo} {m:Nat},bI0 ts f out n=.ok (a,m)->OkPs a (k+(m-n))
 | 0,out,n,k,hn,ho,a,m,h=>by simp[bI0] at h
 | f+1,out,n,k,hn,ho,a,m,h=>by
  rw[bI0] at h
  obtain⟨⟨s,n1⟩,e1,h⟩:=ag0 h
  have q1:=iV0 hE hn e1
  have hs:=ho.snoc (sU0 hT e1)
  have mono:∀ {l:List Slo} {k k':Nat},OkPs l k->k<=k'->OkPs l k':=λh hk=>⟨by have:=h.len;omega,by obtain⟨t,h1,h2⟩:=h.sh;exact⟨t,h1,by omega⟩⟩
  dsimp only at *
  split at h
  ·injection h with h;injection h with h1 h2;subst h1 h2;exact mono hs (by omega)
  ·obtain⟨n2,e2,h⟩:=ag0 h
   have q2:=am0 hE q1.2 e2
   have q3:=gt0 hE q2.2 h
   exact mono (o30 hE hT q2.2 hs h) (by omega)
structure OkF (f:Fun) (k:Nat):Prop where
 lo:f.locals=[]
 ps:f.params.length<=k
 b:f.body.length<=k
 sz:plB f.body=true
 sh:∃ t,ml0 f=some t/\t.length<=1000*k
theorem pFun_ok (hE:TEnd ts) (hT:∀ n,nj0 (tk ts n)) (hL:ts.length<1073741824) {n:Nat} (hn:n<ts.length) {f:Nat} {on:Bool} {a:Fun} {m:Nat} (h:pFun ts f on n=.ok (a,m)):OkF a (m-n):=by
 have hlt:=k90 hE hn h
 unfold pFun at h
 obtain⟨⟨t,n1⟩,e1,h⟩:=ag0 h
 obtain⟨n2,e2,h⟩:=ag0 h
 obtain⟨⟨ps,n3⟩,e3,h⟩:=ag0 h
 obtain⟨n4,e4,h⟩:=ag0 h
 obtain⟨⟨k,n5⟩,e5,h⟩:=ag0 h
 obtain⟨⟨b,n6⟩,e6,h⟩:=ag0 h
 have q1:=bh0 hE hn e1
 have q2:=am0 hE q1.2 e2
 dsimp only at *
 have q3:n2<n3/\n3<ts.length/\OkPs ps (n3-n2):=by
  split at e3
  ·rename_i hi
   have h0:=ax0 hE q2.2 hi (by decide)
   injection e3 with e3;injection e3 with h1 h2;subst h1 h2
   exact⟨by omega,h0,by simp,[],by rw[bA0.eq_def],by simp⟩
  ·have:=gt0 hE q2.2 e3
   have h2:=o30 hE hT q2.2 .nil e3
   rw[Nat.zero_add] at h2
   exact⟨this.1,this.2,h2⟩
 have q4:=am0 hE q3.2.1 e4
 have q5:=fh0 hE q4.2 e5
 have q6:=(nG0 hE f).block q5.2.1 e6
 have hb:=(okG hE hT hL f).block q5.2.1 e6
 have hk:=nV0 e5
 have hnm:=(hO0 hT e1).1
 injection h with h;injection h with h1 h2;subst h1 h2
 obtain⟨pt,h3,h4⟩:=q3.2.2.sh
 obtain⟨bt,h5,h6⟩:=hb.sh 0 (by omega)
 have hpl:=q3.2.2.len
 have hbl:=hb.len
 refine⟨rfl,by dsimp only;omega,by dsimp only;omega,hb.sz,(if on then kwOn else kwFn)++[32]++sB t.text++[40]++sepB pt++[41,58,32]++k++[32]++bt++[10],by unfold ml0;simp[h3,h5,hk.1,hnm],?_⟩
 have:=cU0 hnm
 have:=s30 pt
 have h2:(if on then kwOn else kwFn).length=2:=by cases on<;>rfl
 simp only[List.length_append,List.length_cons,List.length_nil,h2];omega
structure OkP (p:Prg) (k:Nat):Prop where
 v0:0<=p.version
 v1:p.version<9223372036854775808
 sl:p.states.length<=k
 fl:p.fns.length<=k
 st:∃ a,bC0 p.states=some a/\a.length<=1000*k
 ft:∃ b,dX0 p.fns=some b/\b.length<=1000*k
 fs:∀ f∈p.fns,∃ j,OkF f j/\j<=k
theorem OkP.mono {p:Prg} {k k':Nat} (h:OkP p k) (hk:k<=k'):OkP p k' :=
 ⟨h.v0,h.v1,by have:=h.sl;omega,by have:=h.fl;omega,by obtain⟨t,h1,h2⟩:=h.st;exact⟨t,h1,by omega⟩,by obtain⟨t,h1,h2⟩:=h.ft;exact⟨t,h1,by omega⟩,
  λf hf=>by obtain⟨j,h1,h2⟩:=h.fs f hf;exact⟨j,h1,by omega⟩⟩
theorem OkP.state {p:Prg} {k:Nat} (h:OkP p k) {x:Slo} (hx:∃ t,fB0 x=some t/\t.length<=60):OkP { p with states:=p.states++[x] } (k+1):=by
 obtain⟨t,h1,h2⟩:=hx
 obtain⟨a,h3,h4⟩:=h.st
 have:=h.sl;have:=h.fl
 refine⟨h.v0,h.v1,by simp;omega,by dsimp only;omega,⟨_,jR0 h3 h1,?_⟩,by obtain⟨t,h1,h2⟩:=h.ft;exact⟨t,h1,by omega⟩,λf hf=>by obtain⟨j,h1,h2⟩:=h.fs f hf;exact⟨j,h1,by omega⟩⟩
 simp only[List.length_append,List.length_cons,List.length_nil,dO0];omega
theorem OkP.fn {p:Prg} {k j:Nat} (h:OkP p k) {x:Fun} (hx:OkF x j) (hj:1<=j):OkP { p with fns:=p.fns++[x] } (k+j):=by
 obtain⟨t,h1,h2⟩:=hx.sh
 obtain⟨a,h3,h4⟩:=h.ft
 have:=h.sl;have:=h.fl
 refine⟨h.v0,h.v1,by dsimp only;omega,by simp;omega,by obtain⟨t,h1,h2⟩:=h.st;exact⟨t,h1,by omega⟩,⟨_,lT0 h3 h1,?_⟩,λf hf=>?_⟩
 ·simp only[List.length_append];omega
 ·rcases List.mem_append.1 hf with hf|hf
  ·obtain⟨j,h1,h2⟩:=h.fs f hf;exact⟨j,h1,by omega⟩
  ·obtain rfl:=List.mem_singleton.1 hf;exact⟨j,hx,by omega⟩
theorem m50 (hE:TEnd ts) (hT:∀ n,nj0 (tk ts n)) (hL:ts.length<1073741824):∀ {f:Nat} {p:Prg} {n k:Nat},n<ts.length->OkP p k->∀ {a:Prg} {m:Nat},fd0 ts f p n=.ok (a,m)->∃ j,OkP a (k+j)/\n+j<ts.length
 | 0,p,n,k,hn,ho,a,m,h=>by simp[fd0] at h
 | f+1,p,n,k,hn,ho,a,m,h=>by
  rw[fd0] at h
  split at h
  ·injection h with h;injection h with h1 h2;subst h1;exact⟨0,ho,hn⟩
  split at h
  ·rename_i hi
   have h0:=ax0 hE hn hi (by decide)
   obtain⟨⟨s,n1⟩,e1,h⟩:=ag0 h
   obtain⟨n2,e2,h⟩:=ag0 h
   have q1:=iV0 hE h0 e1
   have q2:=am0 hE q1.2 e2
   obtain⟨j,h1,h2⟩:=m50 hE hT hL q2.2 (ho.state (sU0 hT e1)) h
   exact⟨1+j,h1.mono (by omega),by dsimp only at *;omega⟩
  split at h
  ·rename_i hi
   have h0:=ax0 hE hn hi (by decide)
   obtain⟨⟨s,n1⟩,e1,h⟩:=ag0 h
   have q1:=k90 hE h0 e1
   obtain⟨j,h1,h2⟩:=m50 hE hT hL q1.2 (ho.fn (pFun_ok hE hT hL h0 e1) (by dsimp only at *;omega)) h
   exact⟨(n1-(n+1))+j,h1.mono (by omega),by dsimp only at *;omega⟩
  split at h
  ·rename_i hi
   have h0:=ax0 hE hn hi (by decide)
   obtain⟨⟨s,n1⟩,e1,h⟩:=ag0 h
   have q1:=k90 hE h0 e1
   obtain⟨j,h1,h2⟩:=m50 hE hT hL q1.2 (ho.fn (pFun_ok hE hT hL h0 e1) (by dsimp only at *;omega)) h
   exact⟨(n1-(n+1))+j,h1.mono (by omega),by dsimp only at *;omega⟩
  ·cases h
theorem read_ok {s:Bs} {p:Prg} (h:sd0 s=.ok p):OkP p 4097:=by
 rw[m60] at h
 have hg:=gY0 s
 unfold gh0 at h
 cases hx:em0 s with
 | bad a e=>rw[hx] at h;cases h
 | ok ts =>
  have hT:=r20 hx
  rw[hx] at hg h
  obtain⟨o,b,rfl,ho⟩:=hg
  have hE:TEnd (o++[⟨5,bS [],0,b⟩]):=oN0.tend
  have hn:0<(o++[(⟨5,bS [],0,b⟩:Tok)]).length:=by simp
  have hL:(o++[(⟨5,bS [],0,b⟩:Tok)]).length<=4096:=by simp;omega
  generalize o++[(⟨5,bS [],0,b⟩:Tok)]=ts at *
  dsimp only at h
  cases hp:h60 ts mP0 with
  | bad n e=>rw[hp] at h;cases h
  | ok q =>
   obtain⟨p',m⟩:=q
   rw[hp] at h
   injection h with h;subst h
   unfold h60 at hp
   obtain⟨n,e,hp⟩:=ag0 hp
   obtain⟨⟨v,n1⟩,e1,hp⟩:=ag0 hp
   obtain⟨n2,e2,hp⟩:=ag0 hp
   have q:=lL0 hE hn e
   have q1:=r50 hE q.2 e1
   have q2:=am0 hE q1.2 e2
   have hv:0<=v.num/\v.num<9223372036854775808:=by
    unfold pInt at e1
    split at e1
    ·rename_i hk
     injection e1 with e1;injection e1 with h1 h2;subst h1
     exact (hT _).num hk
    ·cases e1
   obtain⟨j,h1,h2⟩:=m50 hE hT (by omega) q2.2 (k:=0) ⟨hv.1,hv.2,by simp,by simp,⟨[],by rw[bC0.eq_def],by simp⟩,⟨[],by rw[dX0.eq_def],by simp⟩,λf hf=>by cases hf⟩ hp
   exact h1.mono (by omega)
end Go.Am
end

section
namespace Go.Am
def rn0 (pl:Bool) (a b:Int):Bool:=!pl||decide (a=b)
mutual
def samE (pl:Bool):Exq->Exq->Bool
 | .mk k op num text slot type args at_,y=>decide (k=y.kind/\op=y.op/\num=y.num/\text=y.text/\slot=y.slot/\type=y.type/\args.length=y.args.length)&&rn0 pl at_ y.at_&&samL pl args y.args
def samL (pl:Bool):List Exq->List Exq->Bool
 | [],m=>decide (m=[])
 | x::l,m=>match m with
  | []=>false
  | y::m=>samE pl x y&&samL pl l m
end
mutual
def samS (pl:Bool):Stm->Stm->Bool
 | .mk k name slot state num e body els at_,y=>decide (k=y.kind/\name=y.name/\slot=y.slot/\state=y.state/\num=y.num/\e.length=y.e.length)&&rn0 pl at_ y.at_&&samL pl e y.e&&samB pl body y.body&&samB pl els y.els
def samB (pl:Bool):List Stm->List Stm->Bool
 | [],m=>decide (m=[])
 | x::l,m=>match m with
  | []=>false
  | y::m=>samS pl x y&&samB pl l m
end
def mj0 (pl:Bool) (x y:Slo):Bool:=decide (x.name=y.name/\x.type=y.type)&&rn0 pl x.at_ y.at_
def dF0 (pl:Bool):List Slo->List Slo->Bool
 | [],m=>decide (m=[])
 | x::l,m=>match m with
  | []=>false
  | y::m=>mj0 pl x y&&dF0 pl l m
def samF (pl:Bool) (x y:Fun):Bool:=decide (x.name=y.name/\x.on=y.on/\x.result=y.result/\x.locals=y.locals)&&rn0 pl x.at_ y.at_&&dF0 pl x.params y.params&&samB pl x.body y.body
def oI0 (pl:Bool):List Fun->List Fun->Bool
 | [],m=>decide (m=[])
 | x::l,m=>match m with
  | []=>false
  | y::m=>samF pl x y&&oI0 pl l m
def samP (pl:Bool) (p q:Prg):Bool:=decide (p.version=q.version)&&dF0 pl p.states q.states&&oI0 pl p.fns q.fns
section
variable {α:Type} (f:α->α->Bool) (g:List α->List α->Bool)
theorem n80 (h0:∀ m,g [] m=decide (m=[])) (h1:∀ x l y m,g (x::l) (y::m)=(f x y&&g l m)) (h2:∀ x l,g (x::l) []=false) :
  ∀ (l m:List α),g l m=true->l.length=m.length/\∀ i (hi:i<l.length) (hj:i<m.length),f l[i] m[i]=true
 | [],m,h=>by
  rw[h0,decide_eq_true_eq] at h;subst h
  exact⟨rfl,λi hi=>by simp at hi⟩
 | x::l,[],h=>by rw[h2] at h;cases h
 | x::l,y::m,h=>by
  rw[h1,Bool.and_eq_true] at h
  obtain⟨a,b⟩:=n80 h0 h1 h2 l m h.2
  refine⟨by simp[a],λi hi hj=>?_⟩
  cases i with
  | zero=>exact h.1
  | succ i=>exact b i (by simpa using hi) (by simpa using hj)
end
theorem s10 {pl:Bool} {l m:List Exq} (h:samL pl l m=true):l.length=m.length/\∀ i (hi:i<l.length) (hj:i<m.length),samE pl l[i] m[i]=true :=
 n80 (samE pl) (samL pl) (λm=>by rw[samL.eq_def]) (λx l y m=>by rw[samL.eq_def]) (λx l=>by rw[samL.eq_def]) l m h
theorem samB_get {pl:Bool} {l m:List Stm} (h:samB pl l m=true):l.length=m.length/\∀ i (hi:i<l.length) (hj:i<m.length),samS pl l[i] m[i]=true :=
 n80 (samS pl) (samB pl) (λm=>by rw[samB.eq_def]) (λx l y m=>by rw[samB.eq_def]) (λx l=>by rw[samB.eq_def]) l m h
theorem ro0 {pl:Bool} {l m:List Slo} (h:dF0 pl l m=true):l.length=m.length/\∀ i (hi:i<l.length) (hj:i<m.length),mj0 pl l[i] m[i]=true :=
 n80 (mj0 pl) (dF0 pl) (λm=>by rw[dF0.eq_def]) (λx l y m=>by rw[dF0.eq_def]) (λx l=>by rw[dF0.eq_def]) l m h
theorem samFs_get {pl:Bool} {l m:List Fun} (h:oI0 pl l m=true):l.length=m.length/\∀ i (hi:i<l.length) (hj:i<m.length),samF pl l[i] m[i]=true :=
 n80 (samF pl) (oI0 pl) (λm=>by rw[oI0.eq_def]) (λx l y m=>by rw[oI0.eq_def]) (λx l=>by rw[oI0.eq_def]) l m h
theorem lb0:∀ {l:List Exq},plL l=true->∀ x∈l,plE x=true
 | [],_,x,hx=>by simp at hx
 | y::l,h,x,hx=>by
  rw[plL,Bool.and_eq_true] at h
  rcases List.mem_cons.1 hx with rfl|hx
  ·exact h.1
  ·exact lb0 h.2 x hx
theorem pZ0:∀ {l:List Stm},plB l=true->∀ x∈l,plS x=true
 | [],_,x,hx=>by simp at hx
 | y::l,h,x,hx=>by
  rw[plB,Bool.and_eq_true] at h
  rcases List.mem_cons.1 hx with rfl|hx
  ·exact h.1
  ·exact pZ0 h.2 x hx
theorem plE_args {x:Exq} (h:plE x=true):x.args.length<1073741824/\plL x.args=true:=by
 obtain⟨k,op,num,text,slot,type,args,at_⟩:=x
 rw[plE,Bool.and_eq_true,decide_eq_true_eq] at h
 exact⟨h.1.2,h.2⟩
theorem rc0 {x:Stm} (h:plS x=true):plL x.e=true/\x.e.length<1073741824/\x.body.length<1073741824/\x.els.length<1073741824/\plB x.body=true/\plB x.els=true:=by
 obtain⟨k,name,slot,state,num,e,body,els,at_⟩:=x
 rw[plS] at h
 simp only[Bool.and_eq_true,decide_eq_true_eq] at h
 exact⟨h.1.1.1,h.1.1.2.1,h.1.1.2.2.1,h.1.1.2.2.2,h.1.2,h.2⟩
theorem m90 {pl:Bool} {a b:Int} (h:rn0 pl a b=true):pl=false\/a=b:=by
 unfold rn0 at h
 cases pl
 ·exact .inl rfl
 ·exact .inr (by simpa using h)
theorem tZ0 {pl:Bool} {x y:Exq} (h:samE pl x y=true):(x.kind=y.kind/\x.op=y.op/\x.num=y.num/\x.text=y.text/\x.slot=y.slot/\x.type=y.type/\x.args.length=y.args.length)/\(pl=false\/x.at_=y.at_)/\samL pl x.args y.args=true:=by
 obtain⟨k,op,num,text,slot,type,args,at_⟩:=x
 rw[samE.eq_def] at h
 simp only[Bool.and_eq_true,decide_eq_true_eq] at h
 exact⟨h.1.1,m90 h.1.2,h.2⟩
theorem ua0 {pl:Bool} {x y:Stm} (h:samS pl x y=true):(x.kind=y.kind/\x.name=y.name/\x.slot=y.slot/\x.state=y.state/\x.num=y.num/\x.e.length=y.e.length)/\(pl=false\/x.at_=y.at_)/\samL pl x.e y.e=true/\samB pl x.body y.body=true/\samB pl x.els y.els=true:=by
 obtain⟨k,name,slot,state,num,e,body,els,at_⟩:=x
 rw[samS.eq_def] at h
 simp only[Bool.and_eq_true,decide_eq_true_eq] at h
 exact⟨h.1.1.1.1,m90 h.1.1.1.2,h.1.1.2,h.1.2,h.2⟩
theorem p90 {pl:Bool} {x y:Slo} (h:mj0 pl x y=true):(x.name=y.name/\x.type=y.type)/\(pl=false\/x.at_=y.at_):=by
 unfold mj0 at h
 simp only[Bool.and_eq_true,decide_eq_true_eq] at h
 exact⟨h.1,m90 h.2⟩
theorem t00 {pl:Bool} {x y:Fun} (h:samF pl x y=true):(x.name=y.name/\x.on=y.on/\x.result=y.result/\x.locals=y.locals)/\(pl=false\/x.at_=y.at_)/\dF0 pl x.params y.params=true/\samB pl x.body y.body=true:=by
 unfold samF at h
 simp only[Bool.and_eq_true,decide_eq_true_eq] at h
 exact⟨h.1.1.1,m90 h.1.1.2,h.1.2,h.2⟩
end Go.Am
end

section
namespace Go.Am
set_option maxRecDepth 100000
attribute [local irreducible] vc vcIs vcI vcOp vcD vcDp vcDR vcT vcAR cf0 bb0 panD neG ne pv J bY0 b50 ci0 bo0 evK evsK nthK objK boxK rowK bQ0 intK strK aggK fnK ifcK az0 aA0 ldK ldaK iaK srcK stK appK appD cn0 pvK bT0 a30 b40 bJ0 slAV bX0
set_option maxHeartbeats 1600000 in
theorem ng0 (c:Bool):∀ (m:Nat) (x y:Exq),SizeOf.sizeOf x<m->plE x=true->samE c x y=true->Ret prog fm0 [x.V,y.V,vB c] (vB true):=by
 intro m
 induction m with
 | zero=>intro x y h;omega
 | succ m ih =>
 intro x y hm hp h
 obtain⟨⟨e1,e2,e3,e4,e5,e6,e7⟩,ha,hl⟩:=tZ0 h
 obtain⟨p1,p2⟩:=plE_args hp
 have hg:=(s10 hl).2
 have hsz:∀ z∈x.args,SizeOf.sizeOf z<m:=λz hz=>by
  have:=List.sizeOf_lt_of_mem hz
  have hx:SizeOf.sizeOf x.args<SizeOf.sizeOf x:=by obtain⟨k,op,num,text,slot,type,args,at_⟩:=x;simp only[Exq.args,Exq.mk.sizeOf_spec];omega
  omega
 refine cH0 jk0 (by simp) ?_
 cases c
 ·skip
  refine rS8 @dc0.eq_1 e1 e2 e3 e4 e5 e6 e7 ?_
  refine aS0 y.args.length (λi=>[(70,vI i),(69,vI y.args.length),(3,.bp (.l 3 0) 0),(4,.bp (.l 4 0) 0),(2,vB false)]) (λi=>[(.l 3 0,.box x.cells),(.l 4 0,.box y.cells)]) (Wk.subs (by simp) (by simp)) ?_
  intro i hi
  by_cases hlt:i<y.args.length
  ·have hlt':(i:Int)<y.args.length:=by omega
   have hlt2:i<x.args.length:=by omega
   have hlt3:(i:Int)<x.args.length:=by omega
   have hc:=ih x.args[i] y.args[i] (hsz _ (List.getElem_mem _)) (lb0 p2 _ (List.getElem_mem _)) (hg i hlt2 hlt)
   simp +contextual (maxSteps:=2000000) (disch:=omega) [-Int.not_lt,-Int.not_le,-Nat.not_lt,-Nat.not_le,sx,hlt',hlt2,hlt3]
   refine ak0 ?_;simp;refine ah0 (hc) (by simp) ?_
   refine rS0 ?_
   exact .of hlt (Wk.subs (by simp) (by simp))
  ·have hge':¬ (i:Int)<y.args.length:=by omega
   exact rT1 hge'
 ·have ha:x.at_=y.at_:=ha.resolve_left (by simp)
  refine rS9 @dc0.eq_1 e1 e2 e3 e4 e5 e6 e7 ha ?_
  refine aS0 y.args.length (λi=>[(70,vI i),(69,vI y.args.length),(3,.bp (.l 3 0) 0),(4,.bp (.l 4 0) 0),(2,vB true)]) (λi=>[(.l 3 0,.box x.cells),(.l 4 0,.box y.cells)]) (Wk.subs (by simp) (by simp)) ?_
  intro i hi
  by_cases hlt:i<y.args.length
  ·have hlt':(i:Int)<y.args.length:=by omega
   have hlt2:i<x.args.length:=by omega
   have hlt3:(i:Int)<x.args.length:=by omega
   have hc:=ih x.args[i] y.args[i] (hsz _ (List.getElem_mem _)) (lb0 p2 _ (List.getElem_mem _)) (hg i hlt2 hlt)
   simp +contextual (maxSteps:=2000000) (disch:=omega) [-Int.not_lt,-Int.not_le,-Nat.not_lt,-Nat.not_le,sx,hlt',hlt2,hlt3]
   refine ak0 ?_;simp;refine ah0 (hc) (by simp) ?_
   refine rS0 ?_
   exact .of hlt (Wk.subs (by simp) (by simp))
  ·have hge':¬ (i:Int)<y.args.length:=by omega
   exact rT1 hge'
@[simp] theorem Slo.tail0 (x:Slo):x.cells.tail=[.c (.string x.type),.c (.int .i64 x.at_)]:=by rw[Slo.ac0];rfl
theorem mq0 (c:Bool) (l l':List Slo) (hn:l.length<2 ^ 30) (h:dF0 c l l'=true):Ret prog eY0 [.lst (l.map Slo.cells),.lst (l'.map Slo.cells),vB c] (vB true):=by
 obtain⟨hlen,hg⟩:=ro0 h
 refine cH0 iN0 (by simp) ?_
 refine rS2 @eB0.eq_1 hlen ?_
 refine aS0 l'.length (λi=>[(15,vI i),(14,vI l'.length),(0,.lst (l.map Slo.cells)),(1,.lst (l'.map Slo.cells)),(2,vB c)]) (λi=>[]) (Wk.subs (by simp) (by simp)) ?_
 intro i hi
 by_cases hlt:i<l'.length
 ·have hlt':(i:Int)<l'.length:=by omega
  have hlt2:i<l.length:=by omega
  have hlt3:(i:Int)<l.length:=by omega
  obtain⟨⟨e1,e2⟩,e3⟩:=p90 (hg i hlt2 hlt)
  rcases e3 with rfl|e3
  ·simp +contextual (maxSteps:=2000000) (disch:=omega) [-Int.not_lt,-Int.not_le,-Nat.not_lt,-Nat.not_le,sx,hlt',hlt2,hlt3,e1,e2]
   exact .of hlt (Wk.subs (by simp) (by simp))
  ·cases c
   ·simp +contextual (maxSteps:=2000000) (disch:=omega) [-Int.not_lt,-Int.not_le,-Nat.not_lt,-Nat.not_le,sx,hlt',hlt2,hlt3,e1,e2]
    exact .of hlt (Wk.subs (by simp) (by simp))
   ·simp +contextual (maxSteps:=2000000) (disch:=omega) [-Int.not_lt,-Int.not_le,-Nat.not_lt,-Nat.not_le,sx,hlt',hlt2,hlt3,e1,e2,e3]
    exact .of hlt (Wk.subs (by simp) (by simp))
 ·have hge':¬ (i:Int)<l'.length:=by omega
  exact rT1 hge'
set_option maxHeartbeats 3200000 in
theorem qr0 (c:Bool):∀ (m:Nat) (l l':List Stm),SizeOf.sizeOf l<m->plB l=true->l.length<2 ^ 30->samB c l l'=true->Ret prog eZ0 [.lst (l.map Stm.cells),.lst (l'.map Stm.cells),vB c] (vB true):=by
 intro m
 induction m with
 | zero=>intro l l' h;omega
 | succ m ih =>
 intro l l' hm hp hn h
 obtain⟨hlen,hg⟩:=samB_get h
 refine cH0 iO0 (by simp) ?_
 refine rS2 @eC0.eq_1 hlen ?_
 refine aS0 l'.length (λi=>[(18,vI i),(17,vI l'.length),(0,.lst (l.map Stm.cells)),(1,.lst (l'.map Stm.cells)),(2,vB c)]) (λi=>[]) (Wk.subs (by simp) (by simp)) ?_
 intro i hi
 by_cases hlt:i<l'.length
 ·have hlt':(i:Int)<l'.length:=by omega
  have hlt2:i<l.length:=by omega
  have hlt3:(i:Int)<l.length:=by omega
  obtain⟨⟨e1,e2,e3,e4,e5,e6⟩,ha,hE,hB,hC⟩:=ua0 (hg i hlt2 hlt)
  obtain⟨p1,p0,p2,p3,p4,p5⟩:=rc0 (pZ0 hp _ (List.getElem_mem hlt2))
  have hx:SizeOf.sizeOf l[i].body<m/\SizeOf.sizeOf l[i].els<m:=by
   have h1:=List.sizeOf_lt_of_mem (List.getElem_mem hlt2)
   have h2:SizeOf.sizeOf l[i].body<SizeOf.sizeOf l[i]/\SizeOf.sizeOf l[i].els<SizeOf.sizeOf l[i]:=by
    obtain⟨k,name,slot,state,num,e,body,els,at_⟩:=l[i]
    simp only[Stm.body,Stm.els,Stm.mk.sizeOf_spec];omega
   omega
  have hb:=ih _ _ hx.1 p4 p2 hB
  have hc:=ih _ _ hx.2 p5 p3 hC
  have hgE:=(s10 hE).2
  cases c
  ·skip
   simp +contextual (maxSteps:=2000000) (disch:=omega) [-Int.not_lt,-Int.not_le,-Nat.not_lt,-Nat.not_le,sx,hlt',hlt2,hlt3,e1,e2,e3,e4,e5,e6]
   refine aS0 l'[i].e.length (λk=>[(84,vI k),(83,vI l'[i].e.length),(18,vI i),(17,vI l'.length),(0,.lst (l.map Stm.cells)),(1,.lst (l'.map Stm.cells)),(2,vB false),(8,.bp (.l 8 0) 0),(9,.bp (.l 9 0) 0)])
    (λk=>[(.l 8 0,.box l[i].cells),(.l 9 0,.box l'[i].cells)]) (Wk.subs (by simp) (by simp)) ?_
   intro k hk
   by_cases hkl:k<l'[i].e.length
   ·have hkl':(k:Int)<l'[i].e.length:=by omega
    have hkl2:k<l[i].e.length:=by omega
    have hkl3:(k:Int)<l[i].e.length:=by omega
    have hx:=ng0 false _ l[i].e[k] l'[i].e[k] (Nat.lt_succ_self _) (lb0 p1 _ (List.getElem_mem _)) (hgE k hkl2 hkl)
    simp +contextual (maxSteps:=2000000) (disch:=omega) [-Int.not_lt,-Int.not_le,-Nat.not_lt,-Nat.not_le,sx,hkl',hkl2,hkl3]
    refine ak0 ?_;simp;refine ah0 (hx) (by simp) ?_
    refine rS0 ?_
    exact .of hkl (Wk.subs (by simp) (by simp))
   ·have hkg:¬ (k:Int)<l'[i].e.length:=by omega
    refine rS1 hkg ?_
    refine ak0 ?_;simp;refine ah0 (hb) (by simp) ?_
    refine rS0 ?_
    refine ak0 ?_;simp;refine ah0 (hc) (by simp) ?_
    refine rS0 ?_
    exact .of hlt (Wk.subs (by simp) (by simp))
  ·have ha:l[i].at_=l'[i].at_:=ha.resolve_left (by simp)
   simp +contextual (maxSteps:=2000000) (disch:=omega) [-Int.not_lt,-Int.not_le,-Nat.not_lt,-Nat.not_le,sx,hlt',hlt2,hlt3,e1,e2,e3,e4,e5,e6,ha]
   refine aS0 l'[i].e.length (λk=>[(84,vI k),(83,vI l'[i].e.length),(18,vI i),(17,vI l'.length),(0,.lst (l.map Stm.cells)),(1,.lst (l'.map Stm.cells)),(2,vB true),(8,.bp (.l 8 0) 0),(9,.bp (.l 9 0) 0)])
    (λk=>[(.l 8 0,.box l[i].cells),(.l 9 0,.box l'[i].cells)]) (Wk.subs (by simp) (by simp)) ?_
   intro k hk
   by_cases hkl:k<l'[i].e.length
   ·have hkl':(k:Int)<l'[i].e.length:=by omega
    have hkl2:k<l[i].e.length:=by omega
    have hkl3:(k:Int)<l[i].e.length:=by omega
    have hx:=ng0 true _ l[i].e[k] l'[i].e[k] (Nat.lt_succ_self _) (lb0 p1 _ (List.getElem_mem _)) (hgE k hkl2 hkl)
    simp +contextual (maxSteps:=2000000) (disch:=omega) [-Int.not_lt,-Int.not_le,-Nat.not_lt,-Nat.not_le,sx,hkl',hkl2,hkl3]
    refine ak0 ?_;simp;refine ah0 (hx) (by simp) ?_
    refine rS0 ?_
    exact .of hkl (Wk.subs (by simp) (by simp))
   ·have hkg:¬ (k:Int)<l'[i].e.length:=by omega
    refine rS1 hkg ?_
    refine ak0 ?_;simp;refine ah0 (hb) (by simp) ?_
    refine rS0 ?_
    refine ak0 ?_;simp;refine ah0 (hc) (by simp) ?_
    refine rS0 ?_
    exact .of hlt (Wk.subs (by simp) (by simp))
 ·have hge':¬ (i:Int)<l'.length:=by omega
  exact rT1 hge'
set_option maxHeartbeats 3200000 in
theorem Same_ok (c:Bool) (p q:Prg) (hs:p.states.length<2 ^ 30) (hf:p.fns.length<2 ^ 30) (hp:∀ f∈p.fns,plB f.body=true/\f.body.length<2 ^ 30/\f.params.length<2 ^ 30/\f.locals.length<2 ^ 30) (h:samP c p q=true) :
  Ret prog il0 [p.V,q.V,vB c] (vB true):=by
 unfold samP at h
 simp only[Bool.and_eq_true,decide_eq_true_eq] at h
 obtain⟨⟨hv,hS⟩,hF⟩:=h
 obtain⟨hlen,hg⟩:=samFs_get hF
 have hS':=mq0 c _ _ hs hS
 refine cH0 lz0 (by simp) ?_
 refine rS2 @hD0.eq_1 hv ?_
 refine ak0 ?_;simp;refine ah0 (hS') (by simp) ?_
 refine rS1 hlen ?_
 refine aS0 q.fns.length (λi=>[(37,vI i),(36,vI q.fns.length),(2,vB c),(3,.bp (.l 3 0) 0),(4,.bp (.l 4 0) 0)]) (λi=>[(.l 3 0,.box p.cells),(.l 4 0,.box q.cells)]) (Wk.subs (by simp[hlen]) (by simp)) ?_
 intro i hi
 by_cases hlt:i<q.fns.length
 ·have hlt':(i:Int)<q.fns.length:=by omega
  have hlt2:i<p.fns.length:=by omega
  have hlt3:(i:Int)<p.fns.length:=by omega
  obtain⟨⟨e1,e2,e3,e4⟩,ha,hP,hB⟩:=t00 (hg i hlt2 hlt)
  obtain⟨b1,b2,b3,b4⟩:=hp _ (List.getElem_mem hlt2)
  have hS2:=mq0 c _ _ b3 hP
  have hB2:=qr0 c _ _ _ (Nat.lt_succ_self _) b1 b2 hB
  rw[e4] at b4
  cases c
  ·skip
   simp +contextual (maxSteps:=2000000) (disch:=omega) [-Int.not_lt,-Int.not_le,-Nat.not_lt,-Nat.not_le,sx,hlt',hlt2,hlt3,e1,e2,e3,e4]
   refine ak0 ?_;simp;refine ah0 (hS2) (by simp) ?_
   refine rS1 e4 ?_
   refine aS0 q.fns[i].locals.length (λk=>[(100,vI k),(99,vI q.fns[i].locals.length),(37,vI i),(36,vI q.fns.length),(2,vB false),(3,.bp (.l 3 0) 0),(4,.bp (.l 4 0) 0),(8,.bp (.l 8 0) 0),(9,.bp (.l 9 0) 0)])
    (λk=>[(.l 3 0,.box p.cells),(.l 4 0,.box q.cells),(.l 8 0,.box p.fns[i].cells),(.l 9 0,.box q.fns[i].cells)]) (Wk.subs (by simp[e4]) (by simp)) ?_
   intro k hk
   by_cases hkl:k<q.fns[i].locals.length
   ·have hkl':(k:Int)<q.fns[i].locals.length:=by omega
    refine rS2 hkl' e4 ?_
    exact .of hkl (Wk.subs (by simp) (by simp))
   ·have hkg:¬ (k:Int)<q.fns[i].locals.length:=by omega
    refine rS1 hkg ?_
    refine ak0 ?_;simp;refine ah0 (hB2) (by simp) ?_
    refine rS0 ?_
    exact .of hlt (Wk.subs (by simp) (by simp))
  ·have ha:p.fns[i].at_=q.fns[i].at_:=ha.resolve_left (by simp)
   simp +contextual (maxSteps:=2000000) (disch:=omega) [-Int.not_lt,-Int.not_le,-Nat.not_lt,-Nat.not_le,sx,hlt',hlt2,hlt3,e1,e2,e3,e4,ha]
   refine ak0 ?_;simp;refine ah0 (hS2) (by simp) ?_
   refine rS2 e4 ha ?_
   refine aS0 q.fns[i].locals.length (λk=>[(100,vI k),(99,vI q.fns[i].locals.length),(37,vI i),(36,vI q.fns.length),(2,vB true),(3,.bp (.l 3 0) 0),(4,.bp (.l 4 0) 0),(8,.bp (.l 8 0) 0),(9,.bp (.l 9 0) 0)])
    (λk=>[(.l 3 0,.box p.cells),(.l 4 0,.box q.cells),(.l 8 0,.box p.fns[i].cells),(.l 9 0,.box q.fns[i].cells)]) (Wk.subs (by simp[e4]) (by simp)) ?_
   intro k hk
   by_cases hkl:k<q.fns[i].locals.length
   ·have hkl':(k:Int)<q.fns[i].locals.length:=by omega
    refine rS2 hkl' e4 ?_
    exact .of hkl (Wk.subs (by simp) (by simp))
   ·have hkg:¬ (k:Int)<q.fns[i].locals.length:=by omega
    refine rS1 hkg ?_
    refine ak0 ?_;simp;refine ah0 (hB2) (by simp) ?_
    refine rS0 ?_
    exact .of hlt (Wk.subs (by simp) (by simp))
 ·have hge':¬ (i:Int)<q.fns.length:=by omega
  exact rT1 hge'
end Go.Am
end

section
namespace Go.Am
set_option maxRecDepth 100000
theorem OkP.uf0 {p:Prg} {k:Nat} (h:OkP p k) (hk:k<2 ^ 20):p.uf0 :=
 ⟨h.v1,by have:=h.sl;omega,by have:=h.fl;omega,λf hf=>by obtain⟨j,h1,h2⟩:=h.fs f hf;have:=h1.ps;omega,λf hf=>by obtain⟨j,h1,h2⟩:=h.fs f hf;have:=h1.b;omega,
  λf hf=>by obtain⟨j,h1,h2⟩:=h.fs f hf;exact h1.sz⟩
theorem rt0 {f:Fun} {t:Bs} (h:ml0 f=some t) {ps:List Bs} (hp:bA0 f.params=some ps):(sepB ps).length<=t.length:=by
 unfold ml0 at h
 rw[hp] at h
 split at h
 ·rename_i ps' b e1 e2
  injection e1 with e1;subst e1
  split at h
  ·injection h with h;subst h
   simp only[List.length_append];omega
  ·cases h
 ·cases h
theorem show_ok {p:Prg} (h:OkP p 4097):∃ t,shP p=some t/\t.length<2 ^ 30/\Ret prog iH0 [p.V] (ob0 t):=by
 obtain⟨a,h1,h2⟩:=h.st
 obtain⟨b,h3,h4⟩:=h.ft
 have hi:=Lib.itoa_length_le p.version (by have:=h.v0;omega) (by have:=h.v1;omega)
 have ht:shP p=some (cv0++[32]++numB p.version++[59,10]++a++b):=by unfold shP;rw[if_pos h.v0,h1,h3]
 have hl:(cv0++[32]++numB p.version++[59,10]++a++b).length<2 ^ 30:=by
  simp only[List.length_append,List.length_cons,List.length_nil,cv0,numB];omega
 refine⟨_,ht,hl,jS0 p (h.uf0 (by omega)) (λf hf ps hps=>?_) ht (by omega)⟩
 obtain⟨j,g1,g2⟩:=h.fs f hf
 obtain⟨t,g3,g4⟩:=g1.sh
 have q:=rt0 g3 hps
 have q2:=g1.ps
 obtain⟨q3,-⟩:=fC0 hps
 exact sp0 ps (by omega) (by omega)
end Go.Am
end

section
namespace Go.Am
abbrev TD:=Int × Bs × Int
def Tok.td (t:Tok):TD:=(t.kind,sB t.text,t.num)
abbrev ap0 (s:Bs):TD:=(4,s,0)
abbrev aG0 (s:Bs):TD:=(1,s,0)
structure LxT (t:Bs) (T:List TD) (N:Bs->Prop):Prop where
 len:T.length<=t.length
 go:∀ (s:Bs) (i:Nat) (r:Bs) (f:Nat) (out:List Tok),s.drop i=t++r->N r->out.length+T.length<=4096 ->
  ∃ toks:List Tok,toks.map Tok.td=T/\hr0 s (f+1+T.length) i out=hr0 s (f+1) (i+t.length) (out++toks)
theorem LxT.nil (N:Bs->Prop):LxT [] [] N:=⟨Nat.le_refl _,λs i r f out _ _ _=>⟨[],rfl,by simp⟩⟩
theorem LxT.weak {t:Bs} {T:List TD} {N M:Bs->Prop} (h:LxT t T N) (k:∀ r,M r->N r):LxT t T M:=⟨h.len,λs i r f out h1 h2 h3=>h.go s i r f out h1 (k r h2) h3⟩
theorem LxT.append {a b:Bs} {A B:List TD} {Na Nb:Bs->Prop} (ha:LxT a A Na) (hb:LxT b B Nb) (hn:∀ r,Nb r->Na (b++r)):LxT (a++b) (A++B) Nb:=by
 refine⟨by have:=ha.len;have:=hb.len;simp only[List.length_append];omega,?_⟩
 intro s i r f out h1 h2 h3
 rw[List.length_append] at h3
 obtain⟨t1,e1,g1⟩:=ha.go s i (b++r) (f+B.length) out (by rw[h1,List.append_assoc]) (hn r h2) (by omega)
 have l1:t1.length=A.length:=by rw[<- e1,List.length_map]
 obtain⟨t2,e2,g2⟩:=hb.go s (i+a.length) r f (out++t1) (by rw[<- List.drop_drop,h1,List.append_assoc,List.drop_left' rfl]) h2 (by rw[List.length_append];omega)
 refine⟨t1++t2,by rw[List.map_append,e1,e2],?_⟩
 rw[List.length_append,List.length_append,show f+1+(A.length+B.length)=f+B.length+1+A.length by omega,g1,show f+B.length+1=f+1+B.length by omega,g2,List.append_assoc,Nat.add_assoc]
theorem ea0 {s:Bs} {i:Nat} {c:UInt8} {r:Bs} (h:s.drop i=c::r):∃ hi:i<s.length,s[i]=c/\s.drop (i+1)=r:=by
 have hi:i<s.length:=by
  have:=congrArg List.length h
  simp at this;omega
 have h2:=List.drop_eq_getElem_cons hi
 rw[h] at h2
 injection h2 with a b
 exact⟨hi,a.symm,b.symm⟩
theorem to0 {s:Bs} {i f:Nat} (h:i<s.length) (hc:aH0.contains s[i]=true):aI0 s (f+1) i=aI0 s (f+1) (i+1):=by
 rw[aI0,aI0,m80 h hc]
theorem rJ0 {s:Bs} {i f:Nat} (h:i<s.length) (hc:aH0.contains s[i]=false) (h35:s[i]≠35):aI0 s (f+1) i=i:=by
 rw[aI0,n70 h hc,if_neg (by rw[List.getElem?_eq_getElem h];simpa using h35)]
theorem LxT.blank {c:UInt8} (hc:aH0.contains c=true) (N:Bs->Prop):LxT [c] [] N:=by
 refine⟨by simp,?_⟩
 intro s i r f out h1 _ _
 obtain⟨hi,e1,e2⟩:=ea0 h1
 have hb:=to0 (f:=s.length) hi (by rw[e1];exact hc)
 refine⟨[],rfl,?_⟩
 rw[List.length_nil,Nat.add_zero,List.append_nil,List.length_singleton,hr0,hr0,hb]
theorem LxT.blanks {t:Bs} (h:t.all (λc=>aH0.contains c)=true) (N:Bs->Prop):LxT t [] N:=by
 induction t with
 | nil=>exact .nil N
 | cons c t ih =>
  rw[List.all_cons,Bool.and_eq_true] at h
  exact LxT.append (a:=[c]) (A:=[]) (.blank h.1 λ_=>True) (ih h.2) λ_ _=>trivial
theorem LxT.one {c:UInt8} {t:Bs} {d:TD} {N:Bs->Prop} (hc:aH0.contains c=false) (h35:c≠35) (h:∀ (s:Bs) (i:Nat) (r:Bs),s.drop i=c::t++r->N r->iT0 s i=.ok (d.1,d.2.1,d.2.2,i+(t.length+1))):LxT (c::t) [d] N:=by
 refine⟨by simp,?_⟩
 intro s i r f out h1 h2 h3
 obtain⟨hi,e1,e2⟩:=ea0 (r:=t++r) h1
 have hb:=rJ0 (f:=s.length) hi (by rw[e1];exact hc) (by rw[e1];exact h35)
 refine⟨[⟨d.1,bS d.2.1,d.2.2,i⟩],rfl,?_⟩
 rw[List.length_singleton] at h3 ⊢
 rw[hr0,hb,if_neg (by omega),h s i r h1 h2]
 dsimp only
 rw[if_neg (by omega)]
 rfl
theorem rz0 {p:UInt8->Bool} {t r:Bs} (h:t.all p=true) (hr:∀ c,r.head?=some c->p c=false):(t++r).takeWhile p=t:=by
 induction t with
 | nil =>
  cases r with
  | nil=>rfl
  | cons c r=>rw[List.nil_append,List.takeWhile_cons,if_neg (by rw[hr c rfl];simp)]
 | cons c t ih =>
  rw[List.all_cons,Bool.and_eq_true] at h
  rw[List.cons_append,List.takeWhile_cons,if_pos h.1,ih h.2]
theorem s00 {set s t r:Bs} {i:Nat} (h:s.drop i=t++r) (ht:t.all (λc=>set.contains c)=true) (hr:∀ c,r.head?=some c->set.contains c=false):bp0 set s i=i+t.length:=by
 unfold bp0
 rw[h,rz0 ht hr]
def a50 (r:Bs):Prop:=∀ c,r.head?=some c->(an0++aj0).contains c=false
theorem a50.cons {c:UInt8} {r:Bs} (h:(an0++aj0).contains c=false):a50 (c::r):=λd hd=>by injection hd with hd;subst hd;exact h
theorem a50.digit {r:Bs} (h:a50 r):∀ c,r.head?=some c->aj0.contains c=false:=λc hc=>by
 have:=h c hc
 rw[<- Bool.not_eq_true] at this ⊢
 intro hh
 apply this
 rw[List.contains_iff_mem] at hh ⊢
 exact List.mem_append.2 (.inr hh)
theorem qT0:∀ c∈an0,aH0.contains c=false/\c≠35:=by decide
theorem rP0:∀ c∈aj0,aH0.contains c=false/\c≠35/\an0.contains c=false:=by decide
theorem LxT.word {c:UInt8} {t:Bs} (hc:an0.contains c=true) (ht:(c::t).all (λc=>(an0++aj0).contains c)=true) (hl:t.length<16):LxT (c::t) [aG0 (c::t)] a50:=by
 have hp:=qT0 c (by simpa using hc)
 refine .one hp.1 hp.2 λs i r h hr=>?_
 obtain⟨hi,e1,e2⟩:=ea0 (r:=t++r) h
 have hrun:=s00 h ht hr
 unfold iT0
 rw[List.getElem?_eq_getElem hi,e1]
 dsimp only
 rw[if_pos hc,hrun,Nat.add_sub_cancel_left,if_neg (by simp;omega),h,List.take_left' rfl]
 rfl
theorem LxT.number {c:UInt8} {t:Bs} {n:Int} (ht:(c::t).all (λc=>aj0.contains c)=true) (h0:t=[]\/c≠48) (hn:numV (c::t) 0=some n):LxT (c::t) [(2,c::t,n)] a50:=by
 have hc:aj0.contains c=true:=by rw[List.all_cons,Bool.and_eq_true] at ht;exact ht.1
 have hp:=rP0 c (by simpa using hc)
 refine .one hp.1 hp.2.1 λs i r h hr=>?_
 obtain⟨hi,e1,e2⟩:=ea0 (r:=t++r) h
 have hrun:=s00 h ht hr.digit
 unfold iT0
 rw[List.getElem?_eq_getElem hi,e1]
 dsimp only
 rw[if_neg (by rw[hp.2.2];simp),if_pos hc,hrun,Nat.add_sub_cancel_left,if_neg (by
  rintro⟨h1,h2⟩
  rcases h0 with rfl|h0
  ·simp at h1
  ·exact h0 h2),h,List.take_left' rfl,hn]
 rfl
theorem iX0 (i0:Nat) (r:Bs):∀ (s:Bs) (j:Nat) (acc:Bs),s.all (λc=>decide (32<=c/\c<=126))=true->acc.length+s.length<=256 ->
  fN0 i0 (s.flatMap (λc=>if c=92 then [92,92] else if c=34 then [92,34] else [c])++34::r) j acc=.ok (acc++s,j+(s.flatMap (λc=>if c=92 then [92,92] else if c=34 then [92,34] else [c])).length+1)
 | [],j,acc,_,hl=>by
  rw[List.flatMap_nil,List.nil_append,fN0.eq_def]
  dsimp only
  simp only[List.length_nil] at hl
  rw[if_pos rfl,if_neg (by omega)]
  simp
 | c::s,j,acc,h,hl=>by
  rw[List.all_cons,Bool.and_eq_true,decide_eq_true_eq] at h
  obtain⟨⟨h1,h2⟩,h3⟩:=h
  rw[UInt8.le_iff_toNat_le] at h1 h2
  have n3:¬ c<32:=by rw[UInt8.lt_iff_toNat_lt];omega
  have n4:¬ 126<c:=by rw[UInt8.lt_iff_toNat_lt];omega
  simp only[List.length_cons] at hl
  rw[List.flatMap_cons,List.append_assoc]
  by_cases e1:c=92
  ·subst e1
   rw[if_pos rfl,List.cons_append,List.cons_append,List.nil_append,fN0.eq_def]
   dsimp only
   rw[if_neg (by decide),if_neg (by decide),if_pos rfl,if_pos (.inr rfl),iX0 i0 r s (j+2) (acc++[92]) h3 (by simp;omega)]
   simp;omega
  ·by_cases e2:c=34
   ·subst e2
    rw[if_neg e1,if_pos rfl,List.cons_append,List.cons_append,List.nil_append,fN0.eq_def]
    dsimp only
    rw[if_neg (by decide),if_neg (by decide),if_pos rfl,if_pos (.inl rfl),iX0 i0 r s (j+2) (acc++[34]) h3 (by simp;omega)]
    simp;omega
   ·rw[if_neg e1,if_neg e2,List.cons_append,List.nil_append,fN0.eq_def]
    dsimp only
    rw[if_neg e2,if_neg (by rintro (h|h);exact n3 h;exact n4 h),if_neg e1,iX0 i0 r s (j+1) (acc++[c]) h3 (by simp;omega)]
    simp;omega
theorem LxT.quote {s:Bs} (h:g70 s=true) (N:Bs->Prop):LxT (jh0 s) [(3,s,0)] N:=by
 unfold g70 at h
 rw[Bool.and_eq_true,decide_eq_true_eq] at h
 unfold jh0
 refine LxT.one (c:=34) (t:=s.flatMap (λc=>if c=92 then [92,92] else if c=34 then [92,34] else [c])++[34]) (by decide) (by decide) λu i r hd _=>?_
 obtain⟨hi,e1,e2⟩:=ea0 (r:=s.flatMap (λc=>if c=92 then [92,92] else if c=34 then [92,34] else [c])++[34]++r) hd
 unfold iT0
 rw[List.getElem?_eq_getElem hi,e1]
 dsimp only
 rw[if_neg (by decide),if_neg (by decide),if_pos rfl,e2,List.append_assoc]
 show (match fN0 i (_++34::r) (i+1) [] with|.bad a e=>_|.ok (t,j)=>_)=_
 rw[iX0 i r s (i+1) [] h.2 (by simpa using h.1)]
 simp only[List.nil_append,List.length_append,List.length_cons,List.length_nil]
 congr 4
 omega
theorem LxT.single {c:UInt8} (hc:cx0.contains c=true):LxT [c] [ap0 [c]] λr=>bx0.contains ((c::r).take 2)=false:=by
 have hp:∀ c∈cx0,aH0.contains c=false/\c≠35/\an0.contains c=false/\aj0.contains c=false/\c≠34:=by decide
 have hp:=hp c (by simpa using hc)
 refine .one hp.1 hp.2.1 λs i r h hr=>?_
 obtain⟨hi,e1,e2⟩:=ea0 (r:=r) h
 unfold iT0
 rw[List.getElem?_eq_getElem hi,e1]
 dsimp only
 rw[if_neg (by rw[hp.2.2.1];simp),if_neg (by rw[hp.2.2.2.1];simp),if_neg hp.2.2.2.2,h,if_neg (by rw[show [c]++r=c::r from rfl,hr];simp),if_pos hc]
 rfl
theorem LxT.double {c d:UInt8} (hc:bx0.contains [c,d]=true) (N:Bs->Prop):LxT [c,d] [ap0 [c,d]] N:=by
 have hp:∀ x∈bx0,aH0.contains (x.headD 0)=false/\x.headD 0≠35/\an0.contains (x.headD 0)=false/\aj0.contains (x.headD 0)=false/\x.headD 0≠34:=by decide
 have hp:=hp [c,d] (by simpa using hc)
 refine .one hp.1 hp.2.1 λs i r h hr=>?_
 obtain⟨hi,e1,e2⟩:=ea0 (r:=d::r) h
 unfold iT0
 rw[List.getElem?_eq_getElem hi,e1]
 dsimp only
 rw[if_neg (by have:=hp.2.2.1;simp only[List.headD_cons] at this;rw[this];simp),if_neg (by have:=hp.2.2.2.1;simp only[List.headD_cons] at this;rw[this];simp),if_neg (show ¬ c=34 from hp.2.2.2.2),h,if_pos (by exact hc)]
 rfl
def lone (c:UInt8):Bool:=cx0.contains c&&bx0.all λx=>decide (x.headD 0≠c)
theorem LxT.lone {c:UInt8} (hc:lone c=true) (N:Bs->Prop):LxT [c] [ap0 [c]] N:=by
 unfold Am.lone at hc
 rw[Bool.and_eq_true] at hc
 refine (LxT.single hc.1).weak λr _=>?_
 rw[<- Bool.not_eq_true]
 intro h
 rw[List.contains_iff_mem] at h
 have:=List.all_eq_true.1 hc.2 _ h
 rw[decide_eq_true_eq] at this
 exact this (by simp)
end Go.Am
end

section
namespace Go.Am
def inP (s:List TD) (b:Bool):List TD:=if b then [ap0 [40]]++s++[ap0 [41]] else s
def sepT:List (List TD)->List TD
 | []=>[]
 | x::l=>x++(l.map λy=>ap0 [44]::y).flatten
mutual
def tE:Exq->List TD
 | .mk k op num text slot type args at_ =>
  if k=1 then [(2,numB num,num)]
  else if k=2 then [aG0 (if num=1 then ge0 else dN0)]
  else if k=3 then [(3,sB text,0)]
  else if k=6 then [aG0 (sB text)]
  else if k=7 then [aG0 (sB text)]++[ap0 [40]]++sepT (tL args)++[ap0 [41]]
  else if k=12 then (match args,tL args with
   | [x,y],[a,b]=>inP a (kz0 x)++[ap0 [91]]++b++[ap0 [93]]
   | _,_=>[])
  else if k=13\/k=14 then (match args,tL args with
   | [x],[a]=>[ap0 (if k=13 then [45] else [33])]++inP a (decide (x.kind=15))
   | _,_=>[])
  else if k=15 then (match args,tL args with
   | [x,y],[a,b]=>inP a (cj0 x (if lvl op=3 then 4 else lvl op))++[ap0 (opB op)]++inP b (cj0 y (lvl op+1))
   | _,_=>[])
  else []
def tL:List Exq->List (List TD)
 | []=>[]
 | x::l=>tE x::tL l
end
mutual
def tS:Stm->List TD
 | .mk k name slot state num e body els at_ =>
  if k=1 then (match tL e with
   | [a]=>[aG0 ev0]++[aG0 (sB name)]++[ap0 [61]]++a++[ap0 [59]]
   | _=>[])
  else if k=2 then (match tL e with
   | [a]=>[aG0 cS0]++[aG0 (sB name)]++[ap0 [61]]++a++[ap0 [59]]
   | [a,b]=>[aG0 cS0]++[aG0 (sB name)]++[ap0 [91]]++a++[ap0 [93]]++[ap0 [61]]++b++[ap0 [59]]
   | _=>[])
  else if k=3 then (match tL e with
   | [a]=>[aG0 es0]++[aG0 (sB name)]++[ap0 [91]]++a++[ap0 [93]]++[ap0 [59]]
   | _=>[])
  else if k=4 then (match tL e with
   | [a]=>[aG0 kwIf]++a++([ap0 [123]]++tkT body++[ap0 [125]])++(if els=[] then [] else [aG0 bs0]++([ap0 [123]]++tkT els++[ap0 [125]]))
   | _=>[])
  else if k=5 then (match tL e with
   | [a]=>[aG0 et0]++[aG0 (sB name)]++[aG0 kwTo]++a++([ap0 [123]]++tkT body++[ap0 [125]])
   | _=>[])
  else if k=6 then (match tL e with
   | [a]=>[aG0 ew0]++a++[ap0 [59]]
   | _=>[])
  else []
def tkT:List Stm->List TD
 | []=>[]
 | x::l=>tS x++tkT l
end
def tB (l:List Stm):List TD:=[ap0 [123]]++tkT l++[ap0 [125]]
abbrev Any:Bs->Prop:=λ_=>True
theorem gf0 {w:Bs} (h:mQ0.contains w=true):LxT w [aG0 w] a50:=by
 have:∀ w∈mQ0,∃ c t,w=c::t/\an0.contains c=true/\(c::t).all (λc=>(an0++aj0).contains c)=true/\t.length<16:=by
  intro w hw
  simp only[mQ0,List.mem_cons,List.not_mem_nil,or_false] at hw
  rcases hw with rfl|rfl|rfl|rfl|rfl|rfl|rfl|rfl|rfl|rfl|rfl|rfl|rfl|rfl|rfl|rfl|rfl<;>exact⟨_,_,rfl,by decide,by decide,by decide⟩
 obtain⟨c,t,rfl,h1,h2,h3⟩:=this w (by simpa using h)
 exact .word h1 h2 h3
theorem gp0 {s:Bs} (h:cT0 s=true):LxT s [aG0 s] a50:=by
 unfold cT0 at h
 simp only[Bool.and_eq_true,decide_eq_true_eq,Bool.not_eq_true'] at h
 obtain⟨⟨⟨⟨h1,h2⟩,h3⟩,h4⟩,_⟩:=h
 cases s with
 | nil=>exact absurd rfl h1
 | cons c t =>
  have hc:(an0++aj0).contains c=true:=by rw[List.all_cons,Bool.and_eq_true] at h4;exact h4.1
  have hl:an0.contains c=true:=by
   rw[List.contains_iff_mem] at hc ⊢
   rcases List.mem_append.1 hc with h|h
   ·exact h
   ·simp only[List.headD_cons] at h3
    rw[<- Bool.not_eq_true,List.contains_iff_mem] at h3
    exact absurd h h3
  exact .word hl h4 (by simp only[List.length_cons] at h2;omega)
theorem nT0:∀ (l m:Bs) (n:Int),numV (l++m) n=(numV l n).bind (numV m)
 | [],m,n=>rfl
 | c::l,m,n=>by
  rw[List.cons_append,numV,numV]
  split
  ·rfl
  ·exact nT0 l m _
theorem qy0:∀ d:Nat,d<10->((UInt8.ofNat (48+d)).toNat:Int)-48=d:=by decide
theorem sO0:∀ (n u:Nat),u<n->(u:Int)<=9223372036854775807->numV (Lib.decDigits u) 0=some (u:Int)
 | 0,u,h,_=>by omega
 | n+1,u,h,hm=>by
  rw[Lib.decDigits]
  split
  ·rename_i h1
   rw[numV,qy0 u h1,if_neg (by
    have:(0:Int)<=(9223372036854775807-(u:Int)).tdiv 10:=Int.tdiv_nonneg (by omega) (by omega)
    omega)]
   simp[numV]
  ·rename_i h1
   rw[nT0,sO0 n (u / 10) (by omega) (by omega),Option.bind_some,numV,qy0 (u % 10) (by omega),if_neg (by
    rw[Int.tdiv_eq_ediv_of_nonneg (by omega)];omega),numV]
   congr 1
   omega
theorem rO0:∀ (n u:Nat),u<n->(Lib.decDigits u).all (λc=>aj0.contains c)=true
 | 0,u,h=>by omega
 | n+1,u,h=>by
  have hd:∀ d:Nat,d<10->aj0.contains (UInt8.ofNat (48+d))=true:=by decide
  rw[Lib.decDigits]
  split
  ·rename_i h1;rw[List.all_cons,hd u h1];rfl
  ·rw[List.all_append,rO0 n (u / 10) (by omega),List.all_cons,hd (u % 10) (by omega)];rfl
theorem st0:∀ (n u:Nat),u<n->0<u->∃ c t,Lib.decDigits u=c::t/\c≠48
 | 0,u,h,_=>by omega
 | n+1,u,h,hp=>by
  rw[Lib.decDigits]
  split
  ·rename_i h1
   have hd:∀ d:Nat,d<10->0<d->UInt8.ofNat (48+d)≠48:=by decide
   exact⟨_,_,rfl,hd u h1 hp⟩
  ·obtain⟨c,t,e,hc⟩:=st0 n (u / 10) (by omega) (by omega)
   exact⟨c,t++[UInt8.ofNat (48+u % 10)],by rw[e];rfl,hc⟩
theorem lex_num {n:Int} (h0:0<=n) (h1:n<9223372036854775808):LxT (numB n) [(2,numB n,n)] a50:=by
 obtain⟨u,rfl⟩:∃ u:Nat,n=u:=⟨n.toNat,by omega⟩
 have e:numB (u:Int)=Lib.decDigits u:=by unfold numB Lib.itoa;rw[if_neg (by omega)];rfl
 rw[e]
 have ha:=rO0 _ u (Nat.lt_succ_self _)
 have hv:=sO0 _ u (Nat.lt_succ_self _) (by omega)
 rcases Nat.eq_zero_or_pos u with rfl|hp
 ·have e0:Lib.decDigits 0=[48]:=by rw[Lib.decDigits];rfl
  rw[e0] at ha hv ⊢
  exact .number ha (.inl rfl) hv
 ·obtain⟨c,t,e1,hc⟩:=st0 _ u (Nat.lt_succ_self _) hp
  rw[e1] at ha hv ⊢
  exact .number ha (.inr hc) hv
theorem num_head {n:Int} (h0:0<=n):∃ c t,numB n=c::t/\c≠61:=by
 obtain⟨u,rfl⟩:∃ u:Nat,n=u:=⟨n.toNat,by omega⟩
 have e:numB (u:Int)=Lib.decDigits u:=by unfold numB Lib.itoa;rw[if_neg (by omega)];rfl
 rw[e]
 have ha:=rO0 _ u (Nat.lt_succ_self _)
 cases hd:Lib.decDigits u with
 | nil =>
  rw[Lib.decDigits] at hd
  split at hd<;>simp at hd
 | cons c t =>
  rw[hd,List.all_cons,Bool.and_eq_true] at ha
  refine⟨c,t,rfl,?_⟩
  rintro rfl
  have:=ha.1
  revert this;decide
theorem lex_op {o:Bs} (h:o∈pOps):LxT (o++[32]) [ap0 o] Any:=by
 have h2:pOps=[[124,124],[38,38],[61,61],[33,61],[60],[60,61],[62],[62,61],[43],[45],[42],[47],[37]]:=rfl
 have b:LxT [32] [] Any:=.blank (by decide) _
 rw[h2] at h
 simp only[List.mem_cons,List.not_mem_nil,or_false] at h
 rcases h with rfl|rfl|rfl|rfl|rfl|rfl|rfl|rfl|rfl|rfl|rfl|rfl|rfl
 all_goals first
  | exact LxT.append (LxT.double (by decide) Any) b λ_ _=>trivial
  | exact LxT.append (LxT.single (by decide)) b λ_ _=>(by simp only[List.cons_append,List.take_succ_cons,List.take_zero];decide)
theorem opB_mem {op:Int} (h:opOk op=true):opB op∈pOps:=by
 unfold opOk at h
 rw[decide_eq_true_eq] at h
 unfold opB
 rw[List.getD_eq_getElem?_getD,List.getElem?_eq_getElem (by simp[pOps,a90];omega)]
 exact List.getElem_mem _
def Hd (t:Bs):Prop:=∃ c u,t=c::u/\c≠61
theorem Hd.append {a:Bs} (h:Hd a) (b:Bs):Hd (a++b):=by obtain⟨c,u,rfl,h⟩:=h;exact⟨c,u++b,rfl,h⟩
theorem Hd.within {a:Bs} (h:Hd a) (b:Bool):Hd (within a b):=by
 unfold Am.within
 split
 ·exact⟨40,a++[41],rfl,by decide⟩
 ·exact h
theorem hd_name {s:Bs} (h:cT0 s=true):Hd s:=by
 unfold cT0 at h
 simp only[Bool.and_eq_true,decide_eq_true_eq] at h
 cases s with
 | nil=>exact absurd rfl h.1.1.1.1
 | cons c t =>
  have h4:=h.1.2
  rw[List.all_cons,Bool.and_eq_true] at h4
  refine⟨c,t,rfl,?_⟩
  rintro rfl
  have:=h4.1
  revert this;decide
theorem LxT.within {t:Bs} {T:List TD} (h:LxT t T a50) (b:Bool):LxT (within t b) (inP T b) a50:=by
 unfold Am.within inP
 cases b
 ·exact h
 ·exact (((LxT.lone (c:=40) (by decide) Any).append h λ_ _=>trivial).append (LxT.lone (c:=41) (by decide) Any) λr _=>a50.cons (by decide)).weak λ_ _=>trivial
theorem lex_sep:∀ {ts:List Bs} {Ts:List (List TD)},ts.length=Ts.length->(∀ i (h1:i<ts.length) (h2:i<Ts.length),LxT ts[i] Ts[i] a50)->LxT (sepB ts) (sepT Ts) a50
 | [],[],_,_=>.nil _
 | t::ts,T::Ts,hl,h=>by
  have h0:=h 0 (by simp) (by simp)
  have hr:∀ {ts:List Bs} {Ts:List (List TD)},ts.length=Ts.length->(∀ i (h1:i<ts.length) (h2:i<Ts.length),LxT ts[i] Ts[i] a50)->LxT (ts.map ([44,32]++·)).flatten (Ts.map λy=>ap0 [44]::y).flatten a50/\∀ r,a50 r->a50 ((ts.map ([44,32]++·)).flatten++r):=by
   intro ts
   induction ts with
   | nil=>intro Ts hl h;cases Ts with
    | nil=>exact⟨.nil _,λr h=>h⟩
    | cons _ _=>simp at hl
   | cons t ts ih=>intro Ts hl h;cases Ts with
    | nil=>simp at hl
    | cons T Ts =>
     obtain⟨g1,g2⟩:=ih (by simpa using hl) λi h1 h2=>h (i+1) (by simpa using h1) (by simpa using h2)
     have g0:=h 0 (by simp) (by simp)
     refine⟨?_,λr _=>by rw[List.map_cons,List.flatten_cons];exact a50.cons (by decide)⟩
     have:=(((LxT.lone (c:=44) (by decide) Any).append (LxT.blank (c:=32) (by decide) Any) λ_ _=>trivial).append g0 λ_ _=>trivial).append g1 g2
     simpa using this
  obtain⟨g1,g2⟩:=hr (ts:=ts) (Ts:=Ts) (by simpa using hl) λi h1 h2=>h (i+1) (by simpa using h1) (by simpa using h2)
  have:=LxT.append h0 g1 g2
  have e:sepB (t::ts)=t++(ts.map ([44,32]++·)).flatten:=by
   unfold sepB
   rw[List.mapIdx_cons,List.flatten_cons,if_pos rfl,List.nil_append]
   congr 1
   have:∀ (r:List Bs) (k:Nat),((r.mapIdx λi t=>(if i+(k+1)=0 then ([]:Bs) else [44,32])++t).flatten)=(r.map ([44,32]++·)).flatten:=by
    intro r
    induction r with
    | nil=>intro k;rfl
    | cons y r ih =>
     intro k
     rw[List.mapIdx_cons,List.map_cons,List.flatten_cons,List.flatten_cons,if_neg (by omega)]
     congr 1
     have:=ih (k+1)
     simpa[Nat.add_assoc,Nat.add_comm,Nat.add_left_comm] using this
   exact this ts 0
  rw[e]
  exact this
 | [],_::_,hl,_=>by simp at hl
 | _::_,[],hl,_=>by simp at hl
theorem shL_tL {P:Exq->Bs->Prop}:∀ {l:List Exq} {ts:List Bs},shL l=some ts->(∀ x∈l,∀ {t:Bs},shE x=some t->P x t)->ts.length=(tL l).length/\∀ i (h1:i<ts.length) (h2:i<l.length) (h3:i<(tL l).length),P l[i] ts[i]/\(tL l)[i]=tE l[i]
 | [],ts,h,_=>by
  rw[shL.eq_def] at h;injection h with h;subst h
  exact⟨by rw[tL.eq_def];rfl,λi h1=>by simp at h1⟩
 | x::l,ts,h,hp=>by
  rw[shL.eq_def] at h
  dsimp only at h
  split at h
  ·rename_i a b ha hb
   injection h with h;subst h
   obtain⟨g1,g2⟩:=shL_tL hb λy hy=>hp y (by simp[hy])
   have e:tL (x::l)=tE x::tL l:=by rw[tL.eq_def]
   refine⟨by rw[e];simp[g1],λi h1 h2 h3=>?_⟩
   cases i with
   | zero=>exact⟨hp x (by simp) ha,by simp[e]⟩
   | succ i =>
    simp only[e,List.length_cons] at h1 h2 h3
    have:=g2 i (by omega) (by omega) (by omega)
    simpa[e] using this
  ·cases h
end Go.Am
end

section
namespace Go.Am
theorem lexEx:∀ (m:Nat) (x:Exq),SizeOf.sizeOf x<m->plE x=true->∀ {t:Bs},shE x=some t->LxT t (tE x) a50/\Hd t:=by
 intro m
 induction m with
 | zero=>intro x h;omega
 | succ m ih =>
  intro x hm hp t h
  obtain⟨k,op,num,text,slot,type,args,at_⟩:=x
  rw[plE,Bool.and_eq_true,decide_eq_true_eq] at hp
  obtain⟨⟨p1,p2⟩,p3⟩:=hp
  have hsz:∀ y∈args,SizeOf.sizeOf y<m:=λy hy=>by
   have:=List.sizeOf_lt_of_mem hy
   simp only[Exq.mk.sizeOf_spec] at hm;omega
  have hL:∀ {ts:List Bs},shL args=some ts->ts.length=(tL args).length/\∀ i (h1:i<ts.length) (h2:i<args.length) (h3:i<(tL args).length),(LxT ts[i] (tE args[i]) a50/\Hd ts[i])/\(tL args)[i]=tE args[i]:=λhL =>
   shL_tL (P:=λx t=>LxT t (tE x) a50/\Hd t) hL λy hy t ht=>ih y (hsz y hy) (lb0 p3 y hy) ht
  have mk:∀ c:UInt8,lone c=true->LxT [c] [ap0 [c]] Any:=λc hc=>.lone hc _
  rw[shE.eq_def] at h
  rw[tE.eq_def]
  dsimp only at h ⊢
  split at h
  ·rename_i k1;rw[if_pos k1]
   split at h
   ·rename_i hc;injection h with h;subst h;exact⟨lex_num hc.2 p1,num_head hc.2⟩
   ·cases h
  rename_i k1;rw[if_neg k1]
  split at h
  ·rename_i k2;rw[if_pos k2]
   split at h
   ·injection h with h;subst h
    split
    ·exact⟨gf0 (by decide),116,_,rfl,by decide⟩
    ·exact⟨gf0 (by decide),102,_,rfl,by decide⟩
   ·cases h
  rename_i k2;rw[if_neg k2]
  split at h
  ·rename_i k3;rw[if_pos k3]
   split at h
   ·rename_i hc;injection h with h;subst h;exact⟨.quote hc.2 _,34,_,rfl,by decide⟩
   ·cases h
  rename_i k3;rw[if_neg k3]
  split at h
  ·rename_i k6;rw[if_pos k6]
   split at h
   ·rename_i hc;injection h with h;subst h;exact⟨gp0 hc.2,hd_name hc.2⟩
   ·cases h
  rename_i k6;rw[if_neg k6]
  split at h
  ·rename_i k7;rw[if_pos k7]
   split at h
   ·rename_i hc
    cases hL':shL args with
    | none=>rw[hL'] at h;cases h
    | some ts =>
     rw[hL'] at h
     simp only[Option.map_some,Option.some.injEq] at h
     subst h
     obtain⟨g1,g2⟩:=hL hL'
     have hlen:(tL args).length=args.length:=by
      have:=(shL_tL (P:=λ_ _=>True) hL' λ_ _ _ _=>trivial).1
      have h2:∀ l:List Exq,(tL l).length=l.length:=by
       intro l
       induction l with
       | nil=>rw[tL.eq_def];rfl
       | cons x l ih=>rw[tL.eq_def];simp[ih]
      exact h2 args
     have hs:=lex_sep g1 λi h1 h2=>by
      obtain⟨⟨a,_⟩,b⟩:=g2 i h1 (by omega) h2
      rw[b];exact a
     refine⟨(((gp0 hc).append (mk 40 (by decide)) λr _=>a50.cons (by decide)).append hs λ_ _=>trivial).append (mk 41 (by decide)) (λr _=>a50.cons (by decide)) |>.weak λ_ _=>trivial,((hd_name hc).append _).append _ |>.append _⟩
   ·cases h
  rename_i k7;rw[if_neg k7]
  split at h
  ·rename_i k12;rw[if_pos k12]
   split at h
   all_goals first
    | (cases h;done)
    | skip
   rename_i x y a b hL'
   injection h with h;subst h
   obtain⟨g1,g2⟩:=hL hL'
   have e:tL [x,y]=[tE x,tE y]:=by rw[tL.eq_def];dsimp only;rw[tL.eq_def];dsimp only;rw[tL.eq_def]
   rw[e]
   obtain⟨⟨a1,a2⟩,_⟩:=g2 0 (by simp) (by simp) (by simp[e])
   obtain⟨⟨b1,b2⟩,_⟩:=g2 1 (by simp) (by simp) (by simp[e])
   exact⟨((((a1.within _).append (mk 91 (by decide)) λr _=>a50.cons (by decide)).append b1 λ_ _=>trivial).append (mk 93 (by decide)) λr _=>a50.cons (by decide)).weak λ_ _=>trivial,(((a2.within _).append _).append _).append _⟩
  rename_i k12;rw[if_neg k12]
  split at h
  ·rename_i k13;rw[if_pos k13]
   split at h
   all_goals first
    | (cases h;done)
    | skip
   rename_i x a hL'
   injection h with h;subst h
   obtain⟨g1,g2⟩:=hL hL'
   have e:tL [x]=[tE x]:=by rw[tL.eq_def];dsimp only;rw[tL.eq_def]
   rw[e]
   obtain⟨⟨a1,a2⟩,_⟩:=g2 0 (by simp) (by simp) (by simp[e])
   have hw:=a1.within (decide (x.kind=15))
   have hd:=a2.within (decide (x.kind=15))
   dsimp only
   split
   ·exact⟨(mk 45 (by decide)).append hw λ_ _=>trivial,45,_,rfl,by decide⟩
   ·refine⟨(LxT.single (c:=33) (by decide)).append hw λr _=>?_,33,_,rfl,by decide⟩
    obtain⟨c,u,e1,e2⟩:=hd
    rw[show ([a][0]:Bs)=a from rfl] at e1
    rw[e1,List.cons_append,List.take_succ_cons,List.take_succ_cons,List.take_zero]
    rw[<- Bool.not_eq_true,List.contains_iff_mem]
    simp only[bx0,List.mem_cons,List.not_mem_nil,or_false,List.cons.injEq,and_true]
    rintro (⟨_,h⟩|⟨_,h⟩|⟨h,_⟩|⟨h,_⟩|⟨h,_⟩|⟨h,_⟩)
    all_goals first
     | exact e2 h
     | (revert h;decide)
  rename_i k13;rw[if_neg k13]
  split at h
  ·rename_i k15;rw[if_pos k15]
   split at h
   all_goals first
    | (cases h;done)
    | skip
   rename_i x y a b hL'
   split at h
   ·rename_i hop
    injection h with h;subst h
    obtain⟨g1,g2⟩:=hL hL'
    have e:tL [x,y]=[tE x,tE y]:=by rw[tL.eq_def];dsimp only;rw[tL.eq_def];dsimp only;rw[tL.eq_def]
    rw[e]
    obtain⟨⟨a1,a2⟩,_⟩:=g2 0 (by simp) (by simp) (by simp[e])
    obtain⟨⟨b1,b2⟩,_⟩:=g2 1 (by simp) (by simp) (by simp[e])
    have ho:=lex_op (opB_mem hop)
    have:=(((a1.within (cj0 x (if lvl op=3 then 4 else lvl op))).append (LxT.blank (c:=32) (by decide) Any) λr _=>a50.cons (by decide)).append ho λ_ _=>trivial).append (b1.within (cj0 y (lvl op+1))) λ_ _=>trivial
    refine⟨?_,(((a2.within _).append _).append _).append _ |>.append _⟩
    simpa[List.append_assoc] using this
   ·cases h
  ·cases h
theorem iq0 {b:Bs} (h:b.all (λc=>aH0.contains c)=true) {t:Bs} {T:List TD} {N:Bs->Prop} (ht:LxT t T N):LxT (b++t) T N:=(LxT.blanks h Any).append ht λ_ _=>trivial
theorem LxT.then {t:Bs} {T:List TD} {N:Bs->Prop} (ht:LxT t T N) {b:Bs} (h:b.all (λc=>aH0.contains c)=true) (hn:∀ r,N (b++r)):LxT (t++b) T Any:=by
 have:=ht.append (LxT.blanks h Any) λr _=>hn r
 simpa using this
theorem LxT.sp {t:Bs} {T:List TD} (ht:LxT t T a50):LxT (t++[32]) T Any:=ht.then (by decide) λr=>a50.cons (by decide)
theorem lex_eq:LxT ([32,61,32]) [ap0 [61]] Any:=by
 have:=(iq0 (b:=[32]) (by decide) (LxT.single (c:=61) (by decide))).append (LxT.blank (c:=32) (by decide) Any) λr _=>(by simp only[List.cons_append,List.take_succ_cons,List.take_zero];decide)
 simpa using this
theorem lex1 {c:UInt8} (h:lone c=true:=by decide):LxT [c] [ap0 [c]] Any:=.lone h _
theorem og0 {e:List Exq} {a:Bs} (h:shL e=some [a]):∃ x,e=[x]/\shE x=some a/\tL e=[tE x]:=by
 match e,h with
 | [],h=>rw[shL.eq_def] at h;injection h with h;cases h
 | x::l,h =>
  rw[shL.eq_def] at h
  dsimp only at h
  split at h
  ·rename_i a' b ha hb
   injection h with h;injection h with h1 h2;subst h1 h2
   cases l with
   | nil=>exact⟨x,rfl,ha,by rw[tL.eq_def];dsimp only;rw[tL.eq_def]⟩
   | cons y l =>
    rw[shL.eq_def] at hb
    dsimp only at hb
    split at hb
    ·injection hb with hb;cases hb
    ·cases hb
  ·cases h
theorem tL_two {e:List Exq} {a b:Bs} (h:shL e=some [a,b]):∃ x y,e=[x,y]/\shE x=some a/\shE y=some b/\tL e=[tE x,tE y]:=by
 match e,h with
 | [],h=>rw[shL.eq_def] at h;injection h with h;cases h
 | x::l,h =>
  rw[shL.eq_def] at h
  dsimp only at h
  split at h
  ·rename_i a' b' ha hb
   injection h with h;injection h with h1 h2;subst h1 h2
   obtain⟨y,rfl,hy,et⟩:=og0 hb
   exact⟨x,y,rfl,ha,hy,by rw[tL.eq_def];dsimp only;rw[et]⟩
  ·cases h
theorem lexT (n:Nat):∀ (l:List Stm) {t:Bs},(∀ x∈l,∀ {s:Bs},shS (n+1) x=some s->LxT s (tS x) Any)->shT n l=some t->LxT t (tkT l) Any
 | [],t,_,h=>by rw[shT.eq_def] at h;injection h with h;subst h;rw[tkT.eq_def];exact .nil _
 | x::l,t,hx,h=>by
  rw[shT.eq_def] at h
  dsimp only at h
  split at h
  ·rename_i a b ha hb
   injection h with h;subst h
   rw[tkT.eq_def]
   have h1:=iq0 (b:=tabs (n+1)) (by simp[tabs,List.all_replicate,aH0]) (hx x (by simp) ha)
   have h2:=h1.then (b:=[10]) (by decide) λr=>trivial
   exact h2.append (lexT n l (λy hy=>hx y (by simp[hy])) hb) λ_ _=>trivial
  ·cases h
theorem lexB (n:Nat) (l:List Stm) {t:Bs} (hx:∀ x∈l,∀ {s:Bs},shS (n+1) x=some s->LxT s (tS x) Any) (h:shB n l=some t):LxT t ([ap0 [123]]++tkT l++[ap0 [125]]) Any:=by
 cases l with
 | nil =>
  rw[shB.eq_def] at h;injection h with h;subst h
  rw[tkT.eq_def]
  exact (lex1 (c:=123)).append (lex1 (c:=125)) λ_ _=>trivial
 | cons x l =>
  rw[lS0] at h
  cases hT:shT n (x::l) with
  | none=>rw[hT] at h;cases h
  | some b =>
   rw[hT] at h
   simp only[Option.map_some,Option.some.injEq] at h
   subst h
   have h1:=(((lex1 (c:=123)).then (b:=[10]) (by decide) λ_=>trivial).append (lexT n (x::l) hx hT) λ_ _=>trivial).then (b:=tabs n) (by simp[tabs,List.all_replicate,aH0]) λ_=>trivial
   exact h1.append (lex1 (c:=125)) λ_ _=>trivial
theorem lexS:∀ (m n:Nat) (x:Stm),SizeOf.sizeOf x<m->plS x=true->∀ {t:Bs},shS n x=some t->LxT t (tS x) Any:=by
 intro m
 induction m with
 | zero=>intro n x h;omega
 | succ m ih =>
  intro n x hm hp t h
  obtain⟨p1,_,_,_,p4,p5⟩:=rc0 hp
  obtain⟨k,name,slot,state,num,e,body,els,at_⟩:=x
  simp only[Stm.mk.sizeOf_spec] at hm
  have p1:plL e=true:=p1
  have p4:plB body=true:=p4
  have p5:plB els=true:=p5
  have hB:∀ {l:List Stm} {t:Bs},SizeOf.sizeOf l<m->plB l=true->shB n l=some t->LxT t ([ap0 [123]]++tkT l++[ap0 [125]]) Any:=λ{l t} hl hpl h =>
   lexB n l (λx hx s hs=>ih (n+1) x (by have:=List.sizeOf_lt_of_mem hx;omega) (pZ0 hpl x hx) hs) h
  have hE:∀ {x:Exq} {a:Bs},x∈e->shE x=some a->LxT a (tE x) a50:=λhx h=>(lexEx _ _ (Nat.lt_succ_self _) (lb0 p1 _ hx) h).1
  have nw:∀ {c:UInt8},(an0++aj0).contains c=false->∀ r:Bs,Any r->a50 ([c]++r):=λhc r _=>a50.cons hc
  rw[shS.eq_def] at h
  rw[tS.eq_def]
  dsimp only at h ⊢
  split at h
  ·rename_i k1;rw[if_pos k1]
   split at h
   ·rename_i a hL
    obtain⟨x,rfl,hx,et⟩:=og0 hL
    rw[et];dsimp only
    split at h
    ·rename_i hn
     injection h with h;subst h
     have:=((((gf0 (w:=ev0) (by decide)).sp.append (gp0 hn) λ_ _=>trivial).append lex_eq λr _=>a50.cons (by decide)).append (hE (by simp) hx) λ_ _=>trivial).append (lex1 (c:=59)) (nw (by decide))
     simpa[List.append_assoc] using this
    ·cases h
   ·cases h
  rename_i k1;rw[if_neg k1]
  split at h
  ·rename_i k2;rw[if_pos k2]
   split at h
   ·rename_i a hL
    obtain⟨x,rfl,hx,et⟩:=og0 hL
    rw[et];dsimp only
    split at h
    ·rename_i hn
     injection h with h;subst h
     have:=((((gf0 (w:=cS0) (by decide)).sp.append (gp0 hn) λ_ _=>trivial).append lex_eq λr _=>a50.cons (by decide)).append (hE (by simp) hx) λ_ _=>trivial).append (lex1 (c:=59)) (nw (by decide))
     simpa[List.append_assoc] using this
    ·cases h
   ·rename_i a b hL
    obtain⟨x,y,rfl,hx,hy,et⟩:=tL_two hL
    rw[et];dsimp only
    split at h
    ·rename_i hn
     injection h with h;subst h
     have:=(((((((gf0 (w:=cS0) (by decide)).sp.append (gp0 hn) λ_ _=>trivial).append (lex1 (c:=91)) (nw (by decide))).append (hE (by simp) hx) λ_ _=>trivial).append (lex1 (c:=93)) (nw (by decide))).append lex_eq λ_ _=>trivial).append (hE (by simp) hy) λ_ _=>trivial).append (lex1 (c:=59)) (nw (by decide))
     simpa[List.append_assoc] using this
    ·cases h
   ·cases h
  rename_i k2;rw[if_neg k2]
  split at h
  ·rename_i k3;rw[if_pos k3]
   split at h
   ·rename_i a hL
    obtain⟨x,rfl,hx,et⟩:=og0 hL
    rw[et];dsimp only
    split at h
    ·rename_i hn
     injection h with h;subst h
     have:=(((((gf0 (w:=es0) (by decide)).sp.append (gp0 hn) λ_ _=>trivial).append (lex1 (c:=91)) (nw (by decide))).append (hE (by simp) hx) λ_ _=>trivial).append (lex1 (c:=93)) (nw (by decide))).append (lex1 (c:=59)) λ_ _=>trivial
     simpa[List.append_assoc] using this
    ·cases h
   ·cases h
  rename_i k3;rw[if_neg k3]
  split at h
  ·rename_i k4;rw[if_pos k4]
   split at h
   ·rename_i a b c hL h1 h2
    obtain⟨x,rfl,hx,et⟩:=og0 hL
    rw[et];dsimp only
    injection h with h;subst h
    have g1:=hB (l:=body) (by omega) p4 h1
    have g2:=hB (l:=els) (by omega) p5 h2
    have hh:=(((gf0 (w:=kwIf) (by decide)).sp.append (hE (by simp) hx).sp λ_ _=>trivial).append g1 λ_ _=>trivial)
    split
    ·simpa[List.append_assoc] using hh
    ·have:=(hh.append (iq0 (b:=[32]) (by decide) (gf0 (w:=bs0) (by decide)).sp) λ_ _=>trivial).append g2 λ_ _=>trivial
     simpa[List.append_assoc] using this
   ·cases h
  rename_i k4;rw[if_neg k4]
  split at h
  ·rename_i k5;rw[if_pos k5]
   split at h
   ·rename_i a b hL h1
    obtain⟨x,rfl,hx,et⟩:=og0 hL
    rw[et];dsimp only
    split at h
    ·rename_i hn
     injection h with h;subst h
     have g1:=hB (l:=body) (by omega) p4 h1
     have:=((((gf0 (w:=et0) (by decide)).sp.append (gp0 hn).sp λ_ _=>trivial).append (gf0 (w:=kwTo) (by decide)).sp λ_ _=>trivial).append (hE (by simp) hx).sp λ_ _=>trivial).append g1 λ_ _=>trivial
     simpa[List.append_assoc] using this
    ·cases h
   ·cases h
  rename_i k5;rw[if_neg k5]
  split at h
  ·rename_i k6;rw[if_pos k6]
   split at h
   ·rename_i a hL
    obtain⟨x,rfl,hx,et⟩:=og0 hL
    rw[et];dsimp only
    injection h with h;subst h
    have:=((gf0 (w:=ew0) (by decide)).sp.append (hE (by simp) hx) λ_ _=>trivial).append (lex1 (c:=59)) (nw (by decide))
    simpa[List.append_assoc] using this
   ·cases h
  ·cases h
end Go.Am
end

section
namespace Go.Am
def Ev {α:Type} (g:Nat->α) (r:α):Prop:=∃ F,∀ f,F<=f->g f=r
theorem Ev.same {α:Type} {g:Nat->α} {r:α} (h:∀ f,g f=r):Ev g r:=⟨0,λf _=>h f⟩
theorem Ev.succ {α:Type} {g h:Nat->α} {r:α} (e:Ev h r) (hs:∀ f,g (f+1)=h f):Ev g r:=by
 obtain⟨F,hF⟩:=e
 refine⟨F+1,λf hf=>?_⟩
 obtain⟨k,rfl⟩:∃ k,f=k+1:=⟨f-1,by omega⟩
 rw[hs,hF k (by omega)]
theorem Ev.of {α:Type} {g h:Nat->α} {r:α} (e:Ev h r) (hs:∀ f,g f=h f):Ev g r:=by
 obtain⟨F,hF⟩:=e
 exact⟨F,λf hf=>by rw[hs,hF f hf]⟩
theorem Ev.bind {α β:Type} {g:Nat->LxR α} {k:Nat->α->LxR β} {a:α} {r:LxR β} (h:Ev g (.ok a)) (h2:Ev (λf=>k f a) r):Ev (λf=>(g f).bind (k f)) r:=by
 obtain⟨F,hF⟩:=h
 obtain⟨G,hG⟩:=h2
 exact⟨F+G,λf hf=>by show (g f).bind (k f)=r;rw[hF f (by omega)];exact hG f (by omega)⟩
def Has (ts:List Tok) (n:Nat) (T:List TD):Prop:=∃ L,(ts.map Tok.td).drop n=T++L
theorem Has.cons {ts:List Tok} {n:Nat} {d:TD} {T:List TD} (h:Has ts n (d::T)):(tk ts n).td=d/\Has ts (n+1) T:=by
 obtain⟨L,h⟩:=h
 have hn:n<ts.length:=by
  have:=congrArg List.length h
  simp at this;omega
 have h2:=List.drop_eq_getElem_cons (l:=ts.map Tok.td) (i:=n) (by simpa using hn)
 rw[h] at h2
 injection h2 with a b
 refine⟨?_,L,b.symm⟩
 unfold tk
 rw[List.getD_eq_getElem?_getD,List.getElem?_eq_getElem hn,Option.getD_some]
 rw[a,List.getElem_map]
theorem Has.append {ts:List Tok} {n:Nat} {A B:List TD} (h:Has ts n (A++B)):Has ts n A/\Has ts (n+A.length) B:=by
 obtain⟨L,h⟩:=h
 refine⟨⟨B++L,by rw[h,List.append_assoc]⟩,L,?_⟩
 rw[<- List.drop_drop,h,List.append_assoc,List.drop_left' rfl]
theorem aL0 {ts:List Tok} {n:Nat} {d:TD} (h:(tk ts n).td=d) (k:Int) (s:Bs):isT ts n k s=(decide (d.1=k)&&decide (d.2.1=s)):=by
 subst h
 unfold isT Tok.td
 dsimp only
 congr 1
 rw[decide_eq_decide]
 constructor
 ·intro h;rw[h]
 ·intro h;rw[<- h]
theorem inL_td {ts:List Tok} {n:Nat} {d:TD} (h:(tk ts n).td=d) (l:Nat):cK0 l (tk ts n)=(decide (d.1=4)&&(a90.getD l []).contains d.2.1):=by
 subst h;rfl
def Stop (l:Nat) (ts:List Tok) (n:Nat):Prop:=∀ j,l<=j->cK0 j (tk ts n)=false
theorem Stop.up {l k:Nat} {ts:List Tok} {n:Nat} (h:Stop l ts n) (hk:l<=k):Stop k ts n:=λj hj=>h j (by omega)
def NoPar (ts:List Tok) (n:Nat):Prop:=isT ts n 4 [40]=false
def NoIx (ts:List Tok) (n:Nat):Prop:=isT ts n 4 [91]=false/\NoPar ts n
mutual
def eE:Exq->Exq
 | .mk k o n t s y l a=>.mk k o n t s y (eL l) 0
def eL:List Exq->List Exq
 | []=>[]
 | x::l=>eE x::eL l
end
theorem gk0 (k o n:Int) (t:ByteArray) (s:Int) (y:ByteArray) (l:List Exq) (a:Int):eE (.mk k o n t s y l a)=.mk k o n t s y (eL l) 0:=by rw[eE.eq_def]
theorem aU0 (x:Exq) (l:List Exq):eL (x::l)=eE x::eL l:=by rw[eL.eq_def]
theorem eL_nil:eL []=[]:=by rw[eL.eq_def]
section
variable (d:Nat) (T:List TD) (E:Exq->Prop)
def P6:Prop:=∀ d',d'<=d->∀ ts n,Has ts n T->NoPar ts (n+T.length)->∃ x',E x'/\∀ r,Ev (λf=>fc0 ts f d' x' (n+T.length)) r->Ev (λf=>pUn ts f d' n) r
def P5:Prop:=∀ d',d'<=d->∀ ts n,Has ts n T->NoIx ts (n+T.length)->∃ x',E x'/\Ev (λf=>pUn ts f d' n) (.ok (x',n+T.length))
def PL (l:Nat):Prop:=∀ d',d'<=d->∀ ts n,Has ts n T->NoIx ts (n+T.length)->Stop (l+1) ts (n+T.length)->(l=2->Stop 2 ts (n+T.length))->∃ x',E x'/\∀ r,Ev (λf=>ex0 ts f l d' x' (n+T.length)) r->Ev (λf=>pBin ts f l d' n) r
def PX:Prop:=∀ d',d'<=d->∀ ts n,Has ts n T->NoIx ts (n+T.length)->Stop 0 ts (n+T.length)->∃ x',E x'/\Ev (λf=>by0 ts f d' n) (.ok (x',n+T.length))
end
section
variable {d:Nat} {T:List TD} {E:Exq->Prop}
theorem j90 {ts:List Tok} {l d m:Nat} {x:Exq} (h:cK0 l (tk ts m)=false):Ev (λf=>ex0 ts f l d x m) (.ok (x,m)) :=
 ⟨1,λf hf=>by
  obtain⟨k,rfl⟩:∃ k,f=k+1:=⟨f-1,by omega⟩
  show ex0 ts (k+1) l d x m=_
  rw[ex0,if_neg (by rw[h];simp)]⟩
theorem tS0 {ts:List Tok} {d m:Nat} {x:Exq} (h:NoIx ts m):Ev (λf=>fc0 ts f d x m) (.ok (x,m)) :=
 ⟨1,λf hf=>by
  obtain⟨k,rfl⟩:∃ k,f=k+1:=⟨f-1,by omega⟩
  show fc0 ts (k+1) d x m=_
  rw[fc0,if_neg (by rw[h.1];simp)]⟩
theorem P6.mono {e:Nat} (h:P6 d T E) (he:e<=d):P6 e T E:=λd' hd=>h d' (by omega)
theorem P5.mono {e:Nat} (h:P5 d T E) (he:e<=d):P5 e T E:=λd' hd=>h d' (by omega)
theorem PL.mono {e l:Nat} (h:PL d T E l) (he:e<=d):PL e T E l:=λd' hd=>h d' (by omega)
theorem P6.to5 (h:P6 d T E):P5 d T E:=λd' hd ts n hT hI=>by
 obtain⟨x,h1,h2⟩:=h d' hd ts n hT hI.2
 exact⟨x,h1,h2 _ (tS0 hI)⟩
theorem P5.toL (h:P5 d T E):PL d T E 4:=λd' hd ts n hT hI hS _=>by
 obtain⟨x,h1,h2⟩:=h d' hd ts n hT hI
 refine⟨x,h1,λr hr=>?_⟩
 have h5:Ev (λf=>pBin ts f 5 d' n) (.ok (x,n+T.length)):=h2.succ λf=>by rw[pBin,if_pos rfl]
 have:=Ev.bind (k:=λf p=>ex0 ts f 4 d' p.1 p.2) h5 hr
 exact this.succ λf=>by rw[pBin,if_neg (by decide)]
theorem PL.down {l:Nat} (hl:l<4) (h:PL d T E (l+1)):PL d T E l:=λd' hd ts n hT hI hS h2=>by
 obtain⟨x,h1,h3⟩:=h d' hd ts n hT hI (hS.up (by omega)) (λe=>by rw[<- e];exact hS)
 refine⟨x,h1,λr hr=>?_⟩
 have h5:=h3 _ (j90 (hS (l+1) (by omega)))
 have:=Ev.bind (k:=λf p=>ex0 ts f l d' p.1 p.2) h5 hr
 exact this.succ λf=>by rw[pBin,if_neg (by omega)]
theorem PL.downs {l:Nat}:∀ {k:Nat},l<=k->k<=4->PL d T E k->PL d T E l
 | 0,h1,_,h=>by obtain rfl:l=0:=by omega
                exact h
 | k+1,h1,h2,h=>by
  by_cases e:l=k+1
  ·subst e;exact h
  ·exact PL.downs (by omega) (by omega) (h.down (by omega))
theorem P5.toLs (h:P5 d T E) {l:Nat} (hl:l<=4):PL d T E l:=PL.downs hl (Nat.le_refl 4) h.toL
theorem PL.toX (h:PL d T E 0) (hd:d<=24):PX d T E:=λd' hd' ts n hT hI hS=>by
 obtain⟨x,h1,h3⟩:=h d' hd' ts n hT hI (hS.up (by omega)) (λe=>by cases e)
 refine⟨x,h1,?_⟩
 exact (h3 _ (j90 (hS 0 (by omega)))).succ λf=>by
  rw[by0]
  unfold hs0
  rw[if_neg (by omega)]
  rfl
theorem mark_no {ts:List Tok} {n:Nat} {s:Bs} (h:(tk ts n).td=ap0 s) (hs:∀ j,(a90.getD j []).contains s=false):Stop 0 ts n:=λj _=>by rw[inL_td h,hs j];simp
theorem no_level {s:Bs} (h:pOps.contains s=false) (j:Nat):(a90.getD j []).contains s=false:=by
 rw[<- Bool.not_eq_true] at h ⊢
 intro hh
 apply h
 rw[List.contains_iff_mem] at hh ⊢
 rw[List.getD_eq_getElem?_getD] at hh
 cases hj:a90[j]? with
 | none=>rw[hj] at hh;simp at hh
 | some l =>
  rw[hj] at hh
  exact List.mem_flatten.2 ⟨l,List.mem_of_getElem? hj,hh⟩
theorem jH0 {ts:List Tok} {n:Nat} {s:Bs} (h:(tk ts n).td=ap0 s) (hs:pOps.contains s=false):Stop 0 ts n:=mark_no h (no_level hs)
theorem o10 {ts:List Tok} {n:Nat} {s:Bs} (h:(tk ts n).td=ap0 s) (hs:s≠[40]):NoPar ts n:=by unfold NoPar;rw[aL0 h];simp[hs]
theorem g00 {ts:List Tok} {n:Nat} {s:Bs} (h:(tk ts n).td=ap0 s) (hs:s≠[91]) (h2:s≠[40]):NoIx ts n:=⟨by rw[aL0 h];simp[hs],o10 h h2⟩
theorem bf0 {ts:List Tok} {n:Nat} {s:Bs} (h:(tk ts n).td=ap0 s):aX0 ts n s=.ok (n+1):=by unfold aX0;rw[aL0 h,if_pos (by simp)]
theorem PX.paren (h:PX (d+1) T E):P6 d ([ap0 [40]]++T++[ap0 [41]]) E:=λd' hd ts n hT _=>by
 rw[List.append_assoc,List.cons_append,List.nil_append] at hT
 obtain⟨h0,hT⟩:=hT.cons
 obtain⟨hT,hc⟩:=hT.append
 obtain⟨hc,-⟩:=hc.cons
 obtain⟨x,h1,h2⟩:=h (d'+1) (by omega) ts (n+1) hT (g00 hc (by decide) (by decide)) (jH0 hc (by decide))
 refine⟨x,h1,λr hr=>?_⟩
 have hp:Ev (λf=>ec0 ts f d' n) (.ok (x,n+1+T.length+1)):=by
  have:=Ev.bind (k:=λf p=>(aX0 ts p.2 [41]).bind λn'=>(.ok (p.1,n'):PR Exq)) h2 (r:=.ok (x,n+1+T.length+1)) (Ev.same λf=>by dsimp only;rw[bf0 hc];rfl)
  refine this.succ λf=>?_
  rw[ec0,aL0 h0,aL0 h0,aL0 h0]
  have hk:(tk ts n).kind=4:=congrArg Prod.fst h0
  rw[if_neg (by rw[hk];decide),if_neg (by rw[hk];decide),if_neg (by simp),if_neg (by simp),if_pos (by simp)]
 have e:n+([ap0 [40]]++T++[ap0 [41]]).length=n+1+T.length+1:=by simp;omega
 rw[e] at hr
 have:=Ev.bind (k:=λf p=>fc0 ts f d' p.1 p.2) hp hr
 refine this.succ λf=>?_
 rw[pUn,aL0 h0,aL0 h0,if_neg (by simp),if_neg (by simp)]
end
def lev (x:Exq):Nat:=if x.kind=15 then (lvl x.op-1).toNat else if x.kind=13\/x.kind=14 then 5 else 6
abbrev tW (l:Nat) (x:Exq):List TD:=inP (tE x) (decide (lev x<l))
def Lk (x:Exq):Exq->Prop:=λx'=>eE x'=eE x
def Hdt (T:List TD):Prop:=∃ a U,T=a::U/\¬ (a.1=4/\a.2.1=[41])
def Nt (d:Nat) (x:Exq):Prop:=(x.kind=15->opOk x.op=true)/\(lev x=6->P6 d (tE x) (Lk x))/\(lev x=5->P5 d (tE x) (Lk x))/\(lev x<=4->PL d (tE x) (Lk x) (lev x))/\Hdt (tE x)
theorem Nt.mono {d e:Nat} {x:Exq} (h:Nt d x) (he:e<=d):Nt e x:=⟨h.1,λk=>(h.2.1 k).mono he,λk=>(h.2.2.1 k).mono he,λk=>(h.2.2.2.1 k).mono he,h.2.2.2.2⟩
theorem lev_le {x:Exq} (h:x.kind=15->opOk x.op=true):lev x<=6:=by
 unfold lev
 split
 ·rename_i k
  have:=h k
  unfold opOk at this
  rw[decide_eq_true_eq] at this
  unfold lvl
  split<;>(try split)<;>(try split)<;>omega
 ·split<;>omega
theorem Nt.p5 {d:Nat} {x:Exq} (h:Nt d x) (hl:5<=lev x):P5 d (tE x) (Lk x):=by
 have:=lev_le h.1
 by_cases e:lev x=5
 ·exact h.2.2.1 e
 ·exact (h.2.1 (by omega)).to5
theorem Nt.pl {d l:Nat} {x:Exq} (h:Nt d x) (hl:l<=lev x) (h4:l<=4):PL d (tE x) (Lk x) l:=by
 by_cases e:lev x<=4
 ·exact PL.downs hl e (h.2.2.2.1 e)
 ·exact (h.p5 (by omega)).toLs h4
theorem Nt.px {d:Nat} {x:Exq} (h:Nt d x) (hd:d<=24):PX d (tE x) (Lk x):=(h.pl (Nat.zero_le _) (by omega)).toX hd
def Fit (l d:Nat) (x:Exq):Prop:=if lev x<l then Nt (d+1) x/\d+1<=24 else Nt d x
theorem Fit.op {l d:Nat} {x:Exq} (h:Fit l d x):x.kind=15->opOk x.op=true:=by
 unfold Fit at h
 split at h
 ·exact h.1.1
 ·exact h.1
theorem Fit.down {l d:Nat} {x:Exq} (h:Fit (l+1) d x):Fit l d x:=by
 unfold Fit at *
 split at h
 ·split
  ·exact h
  ·exact h.1.mono (by omega)
 ·rw[if_neg (by omega)];exact h
theorem Fit.w6 {d:Nat} {x:Exq} (h:Fit 6 d x):P6 d (tW 6 x) (Lk x):=by
 have hop:=lev_le h.op
 unfold Fit at h
 unfold tW inP
 split at h
 ·rename_i hl
  rw[if_pos (by simpa using hl)]
  exact (h.1.px h.2).paren
 ·rename_i hl
  rw[if_neg (by simpa using hl)]
  exact h.2.1 (by omega)
theorem Fit.w5 {d:Nat} {x:Exq} (h:Fit 5 d x):P5 d (tW 5 x) (Lk x):=by
 unfold Fit at h
 unfold tW inP
 split at h
 ·rename_i hl
  rw[if_pos (by simpa using hl)]
  exact (h.1.px h.2).paren.to5
 ·rename_i hl
  rw[if_neg (by simpa using hl)]
  exact h.p5 (by omega)
theorem Fit.wl {l d:Nat} {x:Exq} (hl:l<=4) (h:Fit l d x):PL d (tW l x) (Lk x) l:=by
 unfold Fit at h
 unfold tW inP
 split at h
 ·rename_i hl
  rw[if_pos (by simpa using hl)]
  exact (h.1.px h.2).paren.to5.toLs (by assumption)
 ·rename_i hl
  rw[if_neg (by simpa using hl)]
  exact h.pl (by omega) (by assumption)
theorem Fit.plain {d:Nat} {x:Exq} (h:Fit 0 d x):Nt d x:=by
 unfold Fit at h
 rw[if_neg (by omega)] at h;exact h
theorem tW_down (l:Nat) (x:Exq):(tW l x).length<=(tW (l+1) x).length:=by
 unfold tW inP
 by_cases h:lev x<l
 ·rw[if_pos (by simpa using h),if_pos (by simp;omega)];exact Nat.le_refl _
 ·rw[if_neg (by simpa using h)]
  split
  ·simp;omega
  ·exact Nat.le_refl _
theorem no0 {x:Exq} (h:x.kind=15->opOk x.op=true) {k:Nat} (hk:k<=5):cj0 x (k+1:Nat)=decide (lev x<k):=by
 unfold cj0 lev
 by_cases e:x.kind=15
 ·have:=h e
  unfold opOk at this
  rw[decide_eq_true_eq] at this
  have hv:1<=lvl x.op:=by unfold lvl;split<;>(try split)<;>(try split)<;>omega
  rw[if_pos e]
  simp only[e,decide_true,Bool.true_and]
  rw[decide_eq_decide]
  omega
 ·rw[if_neg e]
  simp only[e,decide_false,Bool.false_and]
  symm
  rw[decide_eq_false_iff_not]
  split<;>omega
theorem isOp_lev {x:Exq} (h:x.kind=15->opOk x.op=true):kz0 x=decide (lev x<6):=by
 unfold kz0
 rw[decide_eq_decide]
 have:=lev_le h
 constructor
 ·intro hk
  rcases hk with hk|hk|hk
  ·have h2:=no0 h (k:=5) (by omega)
   have hop:=h hk
   unfold opOk at hop
   rw[decide_eq_true_eq] at hop
   have hv:lvl x.op<=5:=by unfold lvl;split<;>(try split)<;>(try split)<;>omega
   unfold lev;rw[if_pos hk];omega
  ·unfold lev;rw[if_neg (by rw[hk];decide),if_pos (.inl hk)];omega
  ·unfold lev;rw[if_neg (by rw[hk];decide),if_pos (.inr hk)];omega
 ·intro hl
  unfold lev at hl
  split at hl
  ·rename_i e;exact .inl e
  ·split at hl
   ·rename_i e;exact .inr e
   ·omega
theorem bin_lev {x:Exq} (h:x.kind=15->opOk x.op=true):decide (x.kind=15)=decide (lev x<5):=by
 rw[decide_eq_decide]
 constructor
 ·intro hk
  have hop:=h hk
  unfold opOk at hop
  rw[decide_eq_true_eq] at hop
  have hv:lvl x.op<=5:=by unfold lvl;split<;>(try split)<;>(try split)<;>omega
  unfold lev;rw[if_pos hk];omega
 ·intro hl
  unfold lev at hl
  split at hl
  ·assumption
  ·split at hl<;>omega
theorem op_level {l:Nat} {s:Bs} (hl:l<=4) (h:(a90.getD l []).contains s=true):opOk ((pOps.idxOf s:Nat)+1)=true/\lvl ((pOps.idxOf s:Nat)+1)=l+1/\opB ((pOps.idxOf s:Nat)+1)=s/\(∀ j,l<j->(a90.getD j []).contains s=false):=by
 have key:∀ l,l<=4->∀ s∈a90.getD l [],opOk ((pOps.idxOf s:Nat)+1)=true/\lvl ((pOps.idxOf s:Nat)+1)=l+1/\opB ((pOps.idxOf s:Nat)+1)=s/\∀ j,j<=4->l<j->(a90.getD j []).contains s=false:=by
  intro l hl
  have:l=0\/l=1\/l=2\/l=3\/l=4:=by omega
  rcases this with rfl|rfl|rfl|rfl|rfl<;>decide
 obtain⟨a,b,c,e⟩:=key l hl s (by simpa using h)
 refine⟨a,b,c,λj hj=>?_⟩
 by_cases h4:j<=4
 ·exact e j h4 hj
 ·rw[List.getD_eq_getElem?_getD,List.getElem?_eq_none (by simp[a90];omega)];rfl
end Go.Am
end

section
namespace Go.Am
theorem iy0:∀ l:List Exq,tL l=l.map tE
 | []=>by rw[tL.eq_def];rfl
 | x::l=>by rw[tL.eq_def];simp[iy0 l]
theorem P6.prim {d:Nat} {T:List TD} {E:Exq->Prop} (h:∀ d',d'<=d->∀ ts n,Has ts n T->NoPar ts (n+T.length)->(isT ts n 4 [45]=false/\isT ts n 4 [33]=false)/\∃ x',E x'/\Ev (λf=>ec0 ts f d' n) (.ok (x',n+T.length))):P6 d T E:=λd' hd ts n hT hP=>by
 obtain⟨⟨h1,h2⟩,x,h3,h4⟩:=h d' hd ts n hT hP
 refine⟨x,h3,λr hr=>?_⟩
 have:=Ev.bind (k:=λf p=>fc0 ts f d' p.1 p.2) h4 hr
 exact this.succ λf=>by rw[pUn,if_neg (by rw[h1];simp),if_neg (by rw[h2];simp)]
theorem nt6 {d:Nat} {x:Exq} (hk:x.kind≠15/\x.kind≠13/\x.kind≠14) (h:P6 d (tE x) (Lk x)) (hh:Hdt (tE x)):Nt d x:=by
 have hl:lev x=6:=by unfold lev;rw[if_neg hk.1,if_neg (by rintro (h|h);exact hk.2.1 h;exact hk.2.2 h)]
 exact⟨λe=>absurd e hk.1,λ_=>h,λe=>by omega,λe=>by omega,hh⟩
theorem nt_int (d:Nat) (num at_:Int):Nt d (.mk 1 0 num (bS []) 0 (bS []) [] at_):=by
 have e:tE (.mk 1 0 num (bS []) 0 (bS []) [] at_)=[(2,numB num,num)]:=by rw[tE.eq_def];rfl
 refine nt6 (by simp[Exq.kind]) ?_ (by rw[e];exact⟨_,_,rfl,by simp⟩)
 rw[e]
 refine P6.prim λd' hd ts n hT _=>?_
 obtain⟨h0,-⟩:=hT.cons
 have hk:(tk ts n).kind=2:=congrArg Prod.fst h0
 have hn:(tk ts n).num=num:=congrArg (λx=>x.2.2) h0
 refine⟨⟨by rw[aL0 h0];rfl,by rw[aL0 h0];rfl⟩,.mk 1 0 num (bS []) 0 (bS []) [] (tk ts n).at_,by unfold Lk;rw[gk0,gk0],?_⟩
 exact (Ev.same (g:=λ_=>(.ok (.mk 1 0 num (bS []) 0 (bS []) [] (tk ts n).at_,n+1):PR Exq)) λ_=>rfl).succ λf=>by rw[ec0,if_pos hk,hn]
theorem nt_text (d:Nat) (text:ByteArray) (at_:Int):Nt d (.mk 3 0 0 text 0 (bS []) [] at_):=by
 have e:tE (.mk 3 0 0 text 0 (bS []) [] at_)=[(3,sB text,0)]:=by rw[tE.eq_def];rfl
 refine nt6 (by simp[Exq.kind]) ?_ (by rw[e];exact⟨_,_,rfl,by simp⟩)
 rw[e]
 refine P6.prim λd' hd ts n hT _=>?_
 obtain⟨h0,-⟩:=hT.cons
 have hk:(tk ts n).kind=3:=congrArg Prod.fst h0
 have hn:sB (tk ts n).text=sB text:=congrArg (λx=>x.2.1) h0
 have hn:(tk ts n).text=text:=by
  have:bS (sB (tk ts n).text)=bS (sB text):=by rw[hn]
  exact this
 refine⟨⟨by rw[aL0 h0];rfl,by rw[aL0 h0];rfl⟩,.mk 3 0 0 text 0 (bS []) [] (tk ts n).at_,by unfold Lk;rw[gk0,gk0],?_⟩
 exact (Ev.same (g:=λ_=>(.ok (.mk 3 0 0 text 0 (bS []) [] (tk ts n).at_,n+1):PR Exq)) λ_=>rfl).succ λf=>by rw[ec0,if_neg (by rw[hk];decide),if_pos hk,hn]
theorem nt_true (d:Nat) (at_:Int):Nt d (.mk 2 0 1 (bS []) 0 (bS []) [] at_):=by
 have e:tE (.mk 2 0 1 (bS []) 0 (bS []) [] at_)=[aG0 ge0]:=by rw[tE.eq_def];rfl
 refine nt6 (by simp[Exq.kind]) ?_ (by rw[e];exact⟨_,_,rfl,by simp⟩)
 rw[e]
 refine P6.prim λd' hd ts n hT _=>?_
 obtain⟨h0,-⟩:=hT.cons
 have hk:(tk ts n).kind=1:=congrArg Prod.fst h0
 refine⟨⟨by rw[aL0 h0];rfl,by rw[aL0 h0];rfl⟩,.mk 2 0 1 (bS []) 0 (bS []) [] (tk ts n).at_,by unfold Lk;rw[gk0,gk0],?_⟩
 exact (Ev.same (g:=λ_=>(.ok (.mk 2 0 1 (bS []) 0 (bS []) [] (tk ts n).at_,n+1):PR Exq)) λ_=>rfl).succ λf=>by
  rw[ec0,if_neg (by rw[hk];decide),if_neg (by rw[hk];decide),aL0 h0,if_pos (by simp)]
theorem nt_false (d:Nat) (at_:Int):Nt d (.mk 2 0 0 (bS []) 0 (bS []) [] at_):=by
 have e:tE (.mk 2 0 0 (bS []) 0 (bS []) [] at_)=[aG0 dN0]:=by rw[tE.eq_def];rfl
 refine nt6 (by simp[Exq.kind]) ?_ (by rw[e];exact⟨_,_,rfl,by simp⟩)
 rw[e]
 refine P6.prim λd' hd ts n hT _=>?_
 obtain⟨h0,-⟩:=hT.cons
 have hk:(tk ts n).kind=1:=congrArg Prod.fst h0
 refine⟨⟨by rw[aL0 h0];rfl,by rw[aL0 h0];rfl⟩,.mk 2 0 0 (bS []) 0 (bS []) [] (tk ts n).at_,by unfold Lk;rw[gk0,gk0],?_⟩
 exact (Ev.same (g:=λ_=>(.ok (.mk 2 0 0 (bS []) 0 (bS []) [] (tk ts n).at_,n+1):PR Exq)) λ_=>rfl).succ λf=>by
  rw[ec0,if_neg (by rw[hk];decide),if_neg (by rw[hk];decide),aL0 h0,aL0 h0,if_neg (by decide),if_pos (by simp)]
theorem hP0 {ts:List Tok} {n:Nat} {w:ByteArray} (hw:bt0 w=false) (h0:(tk ts n).td=aG0 (sB w)):df0 ts n=.ok (tk ts n,n+1)/\(tk ts n).text=w:=by
 have hk:(tk ts n).kind=1:=congrArg Prod.fst h0
 have hn:sB (tk ts n).text=sB w:=congrArg (λx=>x.2.1) h0
 have ht:(tk ts n).text=w:=by
  have:bS (sB (tk ts n).text)=bS (sB w):=by rw[hn]
  exact this
 exact⟨by unfold df0;rw[if_pos ⟨hk,by rw[ht];exact hw⟩],ht⟩
theorem on0 {ts:List Tok} {n:Nat} {w:ByteArray} (hw:bt0 w=false) (h0:(tk ts n).td=aG0 (sB w)) (f d:Nat) :
  ec0 ts (f+1) d n=if isT ts (n+1) 4 [40] then (if isT ts (n+2) 4 [41] then .ok (.mk 7 0 0 w 0 (bS []) [] (tk ts n).at_,n+3) else (eP0 ts f (d+1) [] (n+2)).bind λp=>.ok (.mk 7 0 0 w 0 (bS []) p.1 (tk ts n).at_,p.2))
   else .ok (.mk 6 0 0 w 0 (bS []) [] (tk ts n).at_,n+1):=by
 have hk:(tk ts n).kind=1:=congrArg Prod.fst h0
 have hr:∀ s,mQ0.contains s=true->sB w≠s:=by
  rintro s hs rfl
  unfold bt0 at hw
  rw[hw] at hs;cases hs
 obtain⟨h1,h2⟩:=hP0 hw h0
 rw[ec0,if_neg (by rw[hk];decide),if_neg (by rw[hk];decide),aL0 h0,aL0 h0,aL0 h0,if_neg (by simp[hr ge0 (by decide)]),if_neg (by simp[hr dN0 (by decide)]),if_neg (by simp),h1,LxR.bind,h2]
theorem nt_name (d:Nat) {w:ByteArray} (hw:bt0 w=false) (at_:Int):Nt d (.mk 6 0 0 w 0 (bS []) [] at_):=by
 have e:tE (.mk 6 0 0 w 0 (bS []) [] at_)=[aG0 (sB w)]:=by rw[tE.eq_def];rfl
 refine nt6 (by simp[Exq.kind]) ?_ (by rw[e];exact⟨_,_,rfl,by simp⟩)
 rw[e]
 refine P6.prim λd' hd ts n hT hP=>?_
 obtain⟨h0,-⟩:=hT.cons
 refine⟨⟨by rw[aL0 h0];rfl,by rw[aL0 h0];rfl⟩,.mk 6 0 0 w 0 (bS []) [] (tk ts n).at_,by unfold Lk;rw[gk0,gk0],?_⟩
 exact (Ev.same (g:=λ_=>(.ok (.mk 6 0 0 w 0 (bS []) [] (tk ts n).at_,n+1):PR Exq)) λ_=>rfl).succ λf=>by
  rw[on0 hw h0,if_neg (by have:isT ts (n+1) 4 [40]=false:=hP;rw[this];simp)]
def argT (l:List Exq):List TD:=(l.map λa=>ap0 [44]::tE a).flatten
theorem rs0 (a:Exq) (l:List Exq):sepT (tL (a::l))=tE a++argT l:=by
 rw[iy0,List.map_cons,sepT]
 unfold argT
 rw[List.map_map];rfl
theorem sS0 {d:Nat}:∀ (l:List Exq) (a:Exq),(∀ x∈a::l,PX d (tE x) (Lk x))->∀ d',d'<=d->∀ ts n out,Has ts n (tE a++argT l++[ap0 [41]]) ->
  ∃ l',eL l'=eL (a::l)/\Ev (λf=>eP0 ts f d' out n) (.ok (out++l',n+(tE a++argT l).length+1))
 | [],a,h,d',hd,ts,n,out,hT=>by
  have e:argT []=[]:=rfl
  rw[e,List.append_nil] at hT ⊢
  obtain⟨hT,hc⟩:=hT.append
  obtain⟨hc,-⟩:=hc.cons
  obtain⟨x,h1,h2⟩:=h a (by simp) d' hd ts n hT (g00 hc (by decide) (by decide)) (jH0 hc (by decide))
  refine⟨[x],by rw[aU0,aU0,show eE x=eE a from h1],?_⟩
  have:=Ev.bind (k:=λf p=>if isT ts p.2 4 [41] then (.ok (out++[p.1],p.2+1):PR (List Exq)) else (aX0 ts p.2 [44]).bind λn'=>eP0 ts f d' (out++[p.1]) n') h2 (r:=.ok (out++[x],n+(tE a).length+1)) (Ev.same λf=>by
   dsimp only
   rw[aL0 hc,if_pos (by simp)])
  exact this.succ λf=>by rw[eP0]
 | b::l,a,h,d',hd,ts,n,out,hT=>by
  have e:argT (b::l)=ap0 [44]::(tE b++argT l):=by unfold argT;simp
  rw[e,List.append_assoc] at hT
  obtain⟨hT,hc⟩:=hT.append
  rw[List.cons_append] at hc
  obtain⟨hc,hr⟩:=hc.cons
  obtain⟨x,h1,h2⟩:=h a (by simp) d' hd ts n hT (g00 hc (by decide) (by decide)) (jH0 hc (by decide))
  obtain⟨l',g1,g2⟩:=sS0 l b (λy hy=>h y (by simp[hy])) d' hd ts (n+(tE a).length+1) (out++[x]) hr
  refine⟨x::l',by rw[aU0,aU0,g1,show eE x=eE a from h1],?_⟩
  have el:n+(tE a++argT (b::l)).length+1=n+(tE a).length+1+(tE b++argT l).length+1:=by rw[e];simp;omega
  rw[el,show out++x::l'=out++[x]++l' by simp]
  have:=Ev.bind (k:=λf p=>if isT ts p.2 4 [41] then (.ok (out++[p.1],p.2+1):PR (List Exq)) else (aX0 ts p.2 [44]).bind λn'=>eP0 ts f d' (out++[p.1]) n') h2 (g2.of λf=>by
   dsimp only
   rw[aL0 hc,if_neg (by simp),bf0 hc]
   rfl)
  exact this.succ λf=>by rw[eP0]
theorem nt_call (d:Nat) {w:ByteArray} (hw:bt0 w=false) (l:List Exq) (hl:∀ x∈l,Nt (d+1) x) (h24:l=[]\/d+1<=24) (at_:Int):Nt d (.mk 7 0 0 w 0 (bS []) l at_):=by
 have e:tE (.mk 7 0 0 w 0 (bS []) l at_)=[aG0 (sB w)]++[ap0 [40]]++sepT (tL l)++[ap0 [41]]:=by rw[tE.eq_def];rfl
 refine nt6 (by simp[Exq.kind]) ?_ (by rw[e];exact⟨_,_,rfl,by simp⟩)
 rw[e]
 refine P6.prim λd' hd ts n hT _=>?_
 rw[List.append_assoc,List.append_assoc,List.cons_append,List.nil_append,List.cons_append,List.nil_append] at hT
 obtain⟨h0,hT⟩:=hT.cons
 obtain⟨h1,hT⟩:=hT.cons
 have m1:isT ts (n+1) 4 [40]=true:=by rw[aL0 h1];simp
 refine⟨⟨by rw[aL0 h0];rfl,by rw[aL0 h0];rfl⟩,?_⟩
 cases l with
 | nil =>
  have e2:sepT (tL [])=[]:=by rw[tL.eq_def];rfl
  rw[e2,List.nil_append] at hT
  obtain⟨h2,-⟩:=hT.cons
  refine⟨.mk 7 0 0 w 0 (bS []) [] (tk ts n).at_,by unfold Lk;rw[gk0,gk0],?_⟩
  rw[e2]
  exact (Ev.same (g:=λ_=>(.ok (.mk 7 0 0 w 0 (bS []) [] (tk ts n).at_,n+3):PR Exq)) λ_=>rfl).succ λf=>by
   rw[on0 hw h0,if_pos m1,if_pos (by rw[aL0 h2];simp)]
 | cons a l =>
  have h24:d+1<=24:=h24.resolve_left (by simp)
  rw[rs0] at hT ⊢
  obtain⟨l',g1,g2⟩:=sS0 (d:=d+1) l a (λx hx=>(hl x hx).px h24) (d'+1) (by omega) ts (n+1+1) [] hT
  refine⟨.mk 7 0 0 w 0 (bS []) l' (tk ts n).at_,by unfold Lk;rw[gk0,gk0,g1],?_⟩
  have el:n+([aG0 (sB w)]++[ap0 [40]]++(tE a++argT l)++[ap0 [41]]).length=n+1+1+(tE a++argT l).length+1:=by simp;omega
  rw[el]
  have:=Ev.bind (k:=λf p=>(.ok (.mk 7 0 0 w 0 (bS []) p.1 (tk ts n).at_,p.2):PR Exq)) g2 (Ev.same λf=>rfl)
  refine this.succ λf=>?_
  rw[on0 hw h0,if_pos m1,if_neg]
  obtain⟨b,U,e3,e4⟩:=(hl a (by simp)).2.2.2.2
  rw[e3] at hT
  obtain⟨h2,-⟩:=hT.cons
  rw[aL0 h2]
  intro hh
  simp only[Bool.and_eq_true,decide_eq_true_eq] at hh
  exact e4 hh
end Go.Am
end

section
namespace Go.Am
theorem Fit.hd {l d:Nat} {x:Exq} (h:Fit l d x):Hdt (tW l x):=by
 unfold tW inP
 split
 ·exact⟨_,_,rfl,by simp⟩
 ·unfold Fit at h
  split at h
  ·exact h.1.2.2.2.2
  ·exact h.2.2.2.2
theorem Hdt.append {A:List TD} (h:Hdt A) (B:List TD):Hdt (A++B):=by obtain⟨a,U,rfl,h⟩:=h;exact⟨a,U++B,rfl,h⟩
theorem nt_idx {d:Nat} {o p:Exq} (ho:Fit 6 d o) (hp:Nt (d+1) p) (h24:d+1<=24) (at_:Int):Nt d (.mk 12 0 0 (bS []) 0 (bS []) [o,p] at_)/\tE (.mk 12 0 0 (bS []) 0 (bS []) [o,p] at_)=tW 6 o++[ap0 [91]]++tE p++[ap0 [93]]:=by
 have e:tE (.mk 12 0 0 (bS []) 0 (bS []) [o,p] at_)=tW 6 o++[ap0 [91]]++tE p++[ap0 [93]]:=by
  rw[tE.eq_def]
  dsimp only
  rw[iy0]
  show inP (tE o) (kz0 o)++[ap0 [91]]++tE p++[ap0 [93]]=_
  rw[isOp_lev ho.op]
 refine⟨nt6 (by simp[Exq.kind]) ?_ (by rw[e];exact ((ho.hd.append _).append _).append _),e⟩
 rw[e]
 intro d' hd ts n hT _
 rw[List.append_assoc,List.append_assoc] at hT
 obtain⟨hO,hT⟩:=hT.append
 rw[List.cons_append,List.nil_append] at hT
 obtain⟨h1,hT⟩:=hT.cons
 obtain⟨hP,hT⟩:=hT.append
 obtain⟨h2,-⟩:=hT.cons
 obtain⟨o',g1,g2⟩:=ho.w6 d' hd ts n hO (o10 h1 (by decide))
 obtain⟨p',g3,g4⟩:=(hp.px h24) (d'+1) (by omega) ts (n+(tW 6 o).length+1) hP (g00 h2 (by decide) (by decide)) (jH0 h2 (by decide))
 refine⟨.mk 12 0 0 (bS []) 0 (bS []) [o',p'] (tk ts (n+(tW 6 o).length)).at_,by
  unfold Lk;rw[gk0,gk0,aU0,aU0,aU0,aU0,show eE o'=eE o from g1,show eE p'=eE p from g3],λr hr=>g2 r ?_⟩
 have el:n+(tW 6 o++[ap0 [91]]++tE p++[ap0 [93]]).length=n+(tW 6 o).length+1+(tE p).length+1:=by simp only[List.length_append,List.length_cons,List.length_nil];omega
 rw[el] at hr
 have:=Ev.bind (k:=λf q=>(aX0 ts q.2 [93]).bind λn'=>fc0 ts f d' (.mk 12 0 0 (bS []) 0 (bS []) [o',q.1] (tk ts (n+(tW 6 o).length)).at_) n') g4 (r:=r) (hr.of λf=>by
  dsimp only
  rw[bf0 h2]
  rfl)
 exact this.succ λf=>by rw[fc0,aL0 h1,if_pos (by simp)]
theorem nt_un {d:Nat} {k:Int} {p:Exq} (hk:k=13\/k=14) (hp:Fit 5 (d+1) p) (h24:d+1<=24) (at_:Int):Nt d (.mk k 0 0 (bS []) 0 (bS []) [p] at_)/\tE (.mk k 0 0 (bS []) 0 (bS []) [p] at_)=[ap0 (if k=13 then [45] else [33])]++tW 5 p:=by
 have e:tE (.mk k 0 0 (bS []) 0 (bS []) [p] at_)=[ap0 (if k=13 then [45] else [33])]++tW 5 p:=by
  rw[tE.eq_def]
  dsimp only
  rw[iy0,if_neg (by omega),if_neg (by omega),if_neg (by omega),if_neg (by omega),if_neg (by omega),if_neg (by omega),if_pos hk]
  show [ap0 (if k=13 then [45] else [33])]++inP (tE p) (decide (p.kind=15))=_
  rw[bin_lev hp.op]
 refine⟨?_,e⟩
 have hlev:lev (.mk k 0 0 (bS []) 0 (bS []) [p] at_)=5:=by unfold lev;show (if k=15 then _ else if k=13\/k=14 then 5 else 6)=5;rw[if_neg (by omega),if_pos hk]
 refine⟨λh=>absurd (show k=15 from h) (by omega),λh=>by omega,λ_=>?_,λh=>by omega,by rw[e];exact⟨_,_,rfl,by dsimp only;split<;>simp⟩⟩
 rw[e]
 intro d' hd ts n hT hI
 rw[List.cons_append,List.nil_append] at hT
 obtain⟨h1,hT⟩:=hT.cons
 have el:n+([ap0 (if k=13 then [45] else [33])]++tW 5 p).length=n+1+(tW 5 p).length:=by simp only[List.length_append,List.length_cons,List.length_nil];omega
 rw[el] at hI ⊢
 obtain⟨p',g1,g2⟩:=hp.w5 (d'+1) (by omega) ts (n+1) hT hI
 refine⟨.mk k 0 0 (bS []) 0 (bS []) [p'] (tk ts n).at_,by unfold Lk;rw[gk0,gk0,aU0,aU0,show eE p'=eE p from g1],?_⟩
 have:=Ev.bind (k:=λf q=>(.ok (.mk k 0 0 (bS []) 0 (bS []) [q.1] (tk ts n).at_,q.2):PR Exq)) g2 (Ev.same λf=>rfl)
 refine this.succ λf=>?_
 rcases hk with rfl|rfl
 ·rw[if_pos rfl] at h1
  rw[pUn,aL0 h1,if_pos (by simp)]
  unfold hs0
  rw[if_neg (by omega)]
  rfl
 ·rw[if_neg (by decide)] at h1
  rw[pUn,aL0 h1,aL0 h1,if_neg (by simp),if_pos (by simp)]
  unfold hs0
  rw[if_neg (by omega)]
  rfl
theorem stop_op {ts:List Tok} {n l:Nat} {s:Bs} (h:(tk ts n).td=ap0 s) (hs:∀ j,l<=j->(a90.getD j []).contains s=false):Stop l ts n:=λj hj=>by rw[inL_td h,hs j hj];simp
theorem op_mark:∀ {l:Nat} {s:Bs},l<=4->(a90.getD l []).contains s=true->s≠[91]/\s≠[40]/\s≠[41]:=by
 have key:∀ l,l<=4->∀ s∈a90.getD l [],s≠[91]/\s≠[40]/\s≠[41]:=by
  intro l hl
  have:l=0\/l=1\/l=2\/l=3\/l=4:=by omega
  rcases this with rfl|rfl|rfl|rfl|rfl<;>decide
 intro l s hl h
 exact key l hl s (by simpa using h)
theorem PL.stop {l d:Nat} {T:List TD} {E:Exq->Prop} (h:PL d T E l) {d':Nat} (hd:d'<=d) {ts:List Tok} {n:Nat} (hT:Has ts n T) (hI:NoIx ts (n+T.length)) (hS:Stop l ts (n+T.length)):∃ x',E x'/\Ev (λf=>pBin ts f l d' n) (.ok (x',n+T.length)):=by
 obtain⟨x,h1,h2⟩:=h d' hd ts n hT hI (hS.up (by omega)) (λe=>by rw[<- e];exact hS)
 exact⟨x,h1,h2 _ (j90 (hS l (Nat.le_refl l)))⟩
theorem Fit.bin {l d:Nat} {x:Exq} (hl:l<=5) (h:Fit l d x) {d':Nat} (hd:d'<=d) {ts:List Tok} {n:Nat} (hT:Has ts n (tW l x)) (hI:NoIx ts (n+(tW l x).length)) (hS:Stop l ts (n+(tW l x).length)):∃ x',Lk x x'/\Ev (λf=>pBin ts f l d' n) (.ok (x',n+(tW l x).length)):=by
 by_cases e:l=5
 ·subst e
  obtain⟨x',h1,h2⟩:=h.w5 d' hd ts n hT hI
  exact⟨x',h1,h2.succ λf=>by rw[pBin,if_pos rfl]⟩
 ·exact (h.wl (by omega)).stop hd hT hI hS
theorem nt_bin {l d:Nat} {o p:Exq} {s:Bs} (hl:l<=4) (hs:(a90.getD l []).contains s=true) (ho:Fit (if l=2 then 3 else l) d o) (hp:Fit (l+1) d p) (at_:Int) :
  Nt d (.mk 15 ((pOps.idxOf s:Nat)+1) 0 (bS []) 0 (bS []) [o,p] at_)/\lev (.mk 15 ((pOps.idxOf s:Nat)+1) 0 (bS []) 0 (bS []) [o,p] at_)=l /\
   tE (.mk 15 ((pOps.idxOf s:Nat)+1) 0 (bS []) 0 (bS []) [o,p] at_)=tW (if l=2 then 3 else l) o++[ap0 s]++tW (l+1) p:=by
 obtain⟨o1,o2,o3,o4⟩:=op_level hl hs
 have hlev:lev (.mk 15 ((pOps.idxOf s:Nat)+1) 0 (bS []) 0 (bS []) [o,p] at_)=l:=by
  unfold lev
  show (if (15:Int)=15 then (lvl ((pOps.idxOf s:Nat)+1)-1).toNat else _)=l
  rw[if_pos rfl,o2];omega
 have e:tE (.mk 15 ((pOps.idxOf s:Nat)+1) 0 (bS []) 0 (bS []) [o,p] at_)=tW (if l=2 then 3 else l) o++[ap0 s]++tW (l+1) p:=by
  rw[tE.eq_def]
  dsimp only
  rw[iy0]
  show inP (tE o) (cj0 o (if lvl ((pOps.idxOf s:Nat)+1)=3 then 4 else lvl ((pOps.idxOf s:Nat)+1)))++[ap0 (opB ((pOps.idxOf s:Nat)+1))]++inP (tE p) (cj0 p (lvl ((pOps.idxOf s:Nat)+1)+1))=_
  rw[o2,o3,show ((l:Int)+1+1)=((l+1:Nat)+1:Nat) by omega,no0 hp.op (by omega)]
  have h1:(if (l:Int)+1=3 then (4:Int) else l+1)=(((if l=2 then 3 else l)+1:Nat):Int):=by split<;>split<;>omega
  rw[h1,no0 ho.op (by split<;>omega)]
 refine⟨⟨λ_=>o1,λh=>by omega,λh=>by omega,λ_=>?_,by rw[e];exact (ho.hd.append _).append _⟩,hlev,e⟩
 rw[hlev,e]
 obtain⟨s1,s2,s3⟩:=op_mark hl hs
 intro d' hd ts n hT hI hS h2
 rw[List.append_assoc] at hT
 obtain⟨hO,hT⟩:=hT.append
 rw[List.cons_append,List.nil_append] at hT
 obtain⟨h1,hT⟩:=hT.cons
 have el:n+(tW (if l=2 then 3 else l) o++[ap0 s]++tW (l+1) p).length=n+(tW (if l=2 then 3 else l) o).length+1+(tW (l+1) p).length:=by simp only[List.length_append,List.length_cons,List.length_nil];omega
 rw[el] at hI hS h2 ⊢
 obtain⟨p',g3,g4⟩:=hp.bin (by omega) hd hT hI hS
 have hin:cK0 l (tk ts (n+(tW (if l=2 then 3 else l) o).length))=true:=by rw[inL_td h1,hs];rfl
 have htx:sB (tk ts (n+(tW (if l=2 then 3 else l) o).length)).text=s:=congrArg (λx=>x.2.1) h1
 by_cases hl2:l=2
 ·subst hl2
  simp only[if_true] at *
  obtain⟨o',g1,g2⟩:=(ho.wl (l:=3) (by omega)).stop hd hO (g00 h1 s1 s2) (stop_op h1 λj hj=>o4 j (by omega))
  refine⟨.mk 15 ((pOps.idxOf s:Nat)+1) 0 (bS []) 0 (bS []) [o',p'] (tk ts (n+(tW 3 o).length)).at_,by
   unfold Lk;rw[gk0,gk0,aU0,aU0,aU0,aU0,show eE o'=eE o from g1,show eE p'=eE p from g3],λr hr=>?_⟩
  have hst:=h2 trivial 2 (Nat.le_refl 2)
  have hr':r=.ok (.mk 15 ((pOps.idxOf s:Nat)+1) 0 (bS []) 0 (bS []) [o',p'] (tk ts (n+(tW 3 o).length)).at_,n+(tW 3 o).length+1+(tW 3 p).length):=by
   obtain⟨F,hF⟩:=hr
   obtain⟨G,hG⟩:=j90 (ts:=ts) (d:=d') (x:=.mk 15 ((pOps.idxOf s:Nat)+1) 0 (bS []) 0 (bS []) [o',p'] (tk ts (n+(tW 3 o).length)).at_) hst
   have a:=hF (F+G) (by omega)
   have b:=hG (F+G) (by omega)
   dsimp only at a b
   rw[<- a,<- b]
  subst hr'
  have h5:Ev (λf=>ex0 ts f 2 d' o' (n+(tW 3 o).length)) (.ok (.mk 15 ((pOps.idxOf s:Nat)+1) 0 (bS []) 0 (bS []) [o',p'] (tk ts (n+(tW 3 o).length)).at_,n+(tW 3 o).length+1+(tW 3 p).length)):=by
   have:=Ev.bind (k:=λf q=>if cK0 2 (tk ts q.2) then (eS0 ts q.2 31:PR Exq) else .ok (.mk 15 ((pOps.idxOf s:Nat)+1) 0 (bS []) 0 (bS []) [o',q.1] (tk ts (n+(tW 3 o).length)).at_,q.2)) g4 (r:=.ok (.mk 15 ((pOps.idxOf s:Nat)+1) 0 (bS []) 0 (bS []) [o',p'] (tk ts (n+(tW 3 o).length)).at_,n+(tW 3 o).length+1+(tW 3 p).length)) (Ev.same λf=>by
    dsimp only
    rw[if_neg (by rw[hst];simp)])
   exact this.succ λf=>by rw[ex0,if_pos hin,htx];rfl
  have:=Ev.bind (k:=λf q=>ex0 ts f 2 d' q.1 q.2) g2 h5
  exact this.succ λf=>by rw[pBin,if_neg (by decide)]
 ·simp only[if_neg hl2] at *
  obtain⟨o',g1,g2⟩:=(ho.wl hl) d' hd ts n hO (g00 h1 s1 s2) (stop_op h1 λj hj=>o4 j (by omega)) (λe=>absurd e hl2)
  refine⟨.mk 15 ((pOps.idxOf s:Nat)+1) 0 (bS []) 0 (bS []) [o',p'] (tk ts (n+(tW l o).length)).at_,by
   unfold Lk;rw[gk0,gk0,aU0,aU0,aU0,aU0,show eE o'=eE o from g1,show eE p'=eE p from g3],λr hr=>g2 r ?_⟩
  have:=Ev.bind (k:=λf q=>ex0 ts f l d' (.mk 15 ((pOps.idxOf s:Nat)+1) 0 (bS []) 0 (bS []) [o',q.1] (tk ts (n+(tW l o).length)).at_) q.2) g4 hr
  exact this.succ λf=>by rw[ex0,if_pos hin,htx];simp only[if_neg hl2]
end Go.Am
end

section
namespace Go.Am
theorem bd0 {α β:Type} {r:LxR α} {f:α->LxR β} {b:β} (h:r.bind f=.ok b):∃ a,r=.ok a/\f a=.ok b:=by
 cases r with
 | ok a=>exact⟨a,rfl,h⟩
 | bad a e=>cases h
theorem b10 {ts:List Tok} {n m:Nat} {s:Bs} (h:aX0 ts n s=.ok m):m=n+1/\isT ts n 4 s=true:=by
 unfold aX0 at h
 split at h
 ·rename_i hi;injection h with h;exact⟨h.symm,hi⟩
 ·cases h
theorem la0 {ts:List Tok} {n:Nat} {a:Tok × Nat} (h:df0 ts n=.ok a):a=(tk ts n,n+1)/\(tk ts n).kind=1/\bt0 (tk ts n).text=false:=by
 unfold df0 at h
 split at h
 ·rename_i hi;injection h with h;exact⟨h.symm,hi⟩
 ·cases h
theorem pU0 {ts:List Tok} {n d:Nat} {u:Unit} (h:hs0 ts n d=.ok u):d<=24:=by
 unfold hs0 at h
 split at h
 ·cases h
 ·omega
structure Src (l d:Nat) (x:Exq) (n m:Nat):Prop where
 len:n+(tW l x).length<=m
 fit:Fit l d x
theorem Src.down {l d:Nat} {x:Exq} {n m:Nat} (h:Src (l+1) d x n m):Src l d x n m:=⟨by have:=h.len;have:=tW_down l x;omega,h.fit.down⟩
theorem tW0 (x:Exq):tW 0 x=tE x:=by unfold tW inP;rw[if_neg (by simp)]
theorem tW_of {l:Nat} {x:Exq} (h:¬ lev x<l):tW l x=tE x:=by unfold tW inP;rw[if_neg (by simpa using h)]
theorem Nt.fit {l d:Nat} {x:Exq} (h:Nt d x) (hl:¬ lev x<l):Fit l d x:=by unfold Fit;rw[if_neg hl];exact h
theorem Src.of {l d:Nat} {x:Exq} {n m:Nat} (h:Nt d x) (hl:¬ lev x<l) (hn:n+(tE x).length<=m):Src l d x n m:=⟨by rw[tW_of hl];exact hn,h.fit hl⟩
theorem lev6 {x:Exq} (hk:x.kind≠15/\x.kind≠13/\x.kind≠14):lev x=6:=by unfold lev;rw[if_neg hk.1,if_neg (by rintro (h|h);exact hk.2.1 h;exact hk.2.2 h)]
structure SrcA (ts:List Tok) (f:Nat):Prop where
 expr:∀ d n x m,by0 ts f d n=.ok (x,m)->Src 0 d x n m/\d<=24
 bin:∀ l d n x m,l<=5->pBin ts f l d n=.ok (x,m)->Src l d x n m
 loop:∀ l d o n0 n x m,l<=4->Src (if l=2 then 3 else l) d o n0 n->ex0 ts f l d o n=.ok (x,m)->Src l d x n0 m
 un:∀ d n x m,pUn ts f d n=.ok (x,m)->Src 5 d x n m
 post:∀ d o n0 n x m,Src 6 d o n0 n->fc0 ts f d o n=.ok (x,m)->Src 6 d x n0 m
 prim:∀ d n x m,ec0 ts f d n=.ok (x,m)->Src 6 d x n m
 args:∀ d out n r m,eP0 ts f d out n=.ok (r,m)->∃ l,r=out++l/\l≠[]/\d<=24/\(∀ a∈l,Nt d a)/\n+(l.map λa=>(tE a).length+1).sum<=m
theorem sepT_len:∀ l:List Exq,(sepT (tL l)).length+1<=(l.map λa=>(tE a).length+1).sum+(if l=[] then 1 else 0)
 | []=>by rw[tL.eq_def];simp[sepT]
 | a::l=>by
  rw[rs0]
  have:∀ l:List Exq,(argT l).length=(l.map λa=>(tE a).length+1).sum:=by
   intro l
   induction l with
   | nil=>rfl
   | cons b l ih =>
    have e:argT (b::l)=ap0 [44]::(tE b++argT l):=by unfold argT;simp
    rw[e,List.map_cons,List.sum_cons]
    simp only[List.length_cons,List.length_append,ih];omega
  rw[List.length_append,this l,List.map_cons,List.sum_cons,if_neg (by simp)];omega
theorem srcA (ts:List Tok):∀ f,SrcA ts f
 | 0=>by
  constructor
  ·intro d n x m h;rw[by0] at h;cases h
  ·intro l d n x m _ h;rw[pBin] at h;cases h
  ·intro l d o n0 n x m _ _ h;rw[ex0] at h;cases h
  ·intro d n x m h;rw[pUn] at h;cases h
  ·intro d o n0 n x m _ h;rw[fc0] at h;cases h
  ·intro d n x m h;rw[ec0] at h;cases h
  ·intro d out n r m h;rw[eP0] at h;cases h
 | f+1=>by
  have ih:=srcA ts f
  constructor
  ·intro d n x m h
   rw[by0] at h
   obtain⟨u,h1,h⟩:=bd0 h
   exact⟨ih.bin 0 d n x m (by omega) h,pU0 h1⟩
  ·intro l d n x m hl h
   rw[pBin] at h
   split at h
   ·rename_i e;subst e;exact ih.un d n x m h
   ·obtain⟨⟨o,k⟩,h1,h⟩:=bd0 h
    have s:=ih.bin (l+1) d n o k (by omega) h1
    refine ih.loop l d o n k x m (by omega) ?_ h
    by_cases e:l=2
    ·subst e;exact s
    ·rw[if_neg e];exact s.down
  ·intro l d o n0 n x m hl hs h
   rw[ex0] at h
   split at h
   ·rename_i hi
    obtain⟨⟨p,k⟩,h1,h⟩:=bd0 h
    have s:=ih.bin (l+1) d (n+1) p k (by omega) h1
    have hi2:(a90.getD l []).contains (sB (tk ts n).text)=true:=by
     unfold cK0 at hi
     simp only[Bool.and_eq_true,decide_eq_true_eq] at hi
     exact hi.2
    obtain⟨b1,b2,b3⟩:=nt_bin hl hi2 hs.fit s.fit (tk ts n).at_
    have hlen:n0+(tE (.mk 15 ((pOps.idxOf (sB (tk ts n).text):Nat)+1) 0 (bS []) 0 (bS []) [o,p] (tk ts n).at_)).length<=k:=by
     have l1:=hs.len
     have l2:=s.len
     rw[b3]
     simp only[List.length_append,List.length_cons,List.length_nil];omega
    have sx:Src l d (.mk 15 ((pOps.idxOf (sB (tk ts n).text):Nat)+1) 0 (bS []) 0 (bS []) [o,p] (tk ts n).at_) n0 k:=Src.of b1 (by omega) hlen
    dsimp only at h
    split at h
    ·rename_i e
     split at h
     ·cases h
     ·injection h with h;injection h with e1 e2;subst e1 e2;exact sx
    ·rename_i e
     refine ih.loop l d _ n0 k x m hl ?_ h
     rw[if_neg e];exact sx
   ·injection h with h;injection h with e1 e2;subst e1 e2
    by_cases e:l=2
    ·subst e;exact hs.down
    ·rw[if_neg e] at hs;exact hs
  ·intro d n x m h
   rw[pUn] at h
   split at h
   ·obtain⟨u,h1,h⟩:=bd0 h
    obtain⟨⟨p,k⟩,h2,h⟩:=bd0 h
    have s:=ih.un (d+1) (n+1) p k h2
    injection h with h;injection h with e1 e2;subst e1 e2
    obtain⟨b1,b2⟩:=nt_un (k:=13) (.inl rfl) s.fit (pU0 h1) (tk ts n).at_
    exact Src.of b1 (by unfold lev;simp[Exq.kind]) (by have:=s.len;rw[b2];simp only[List.length_append,List.length_cons,List.length_nil];omega)
   ·split at h
    ·obtain⟨u,h1,h⟩:=bd0 h
     obtain⟨⟨p,k⟩,h2,h⟩:=bd0 h
     have s:=ih.un (d+1) (n+1) p k h2
     injection h with h;injection h with e1 e2;subst e1 e2
     obtain⟨b1,b2⟩:=nt_un (k:=14) (.inr rfl) s.fit (pU0 h1) (tk ts n).at_
     exact Src.of b1 (by unfold lev;simp[Exq.kind]) (by have:=s.len;rw[b2];simp only[List.length_append,List.length_cons,List.length_nil];omega)
    ·obtain⟨⟨p,k⟩,h2,h⟩:=bd0 h
     exact (ih.post d p n k x m (ih.prim d n p k h2) h).down
  ·intro d o n0 n x m hs h
   rw[fc0] at h
   split at h
   ·obtain⟨⟨p,k⟩,h1,h⟩:=bd0 h
    obtain⟨k2,h2,h⟩:=bd0 h
    obtain⟨s,s24⟩:=ih.expr (d+1) (n+1) p k h1
    obtain⟨rfl,-⟩:=b10 h2
    obtain⟨b1,b2⟩:=nt_idx hs.fit s.fit.plain s24 (tk ts n).at_
    refine ih.post d _ n0 (k+1) x m (Src.of b1 (by rw[lev6 (by simp[Exq.kind])];omega) ?_) h
    have l1:=hs.len
    have l2:=s.len
    rw[tW0] at l2
    rw[b2];simp only[List.length_append,List.length_cons,List.length_nil];omega
   ·injection h with h;injection h with e1 e2;subst e1 e2;exact hs
  ·intro d n x m h
   rw[ec0] at h
   split at h
   ·injection h with h;injection h with e1 e2;subst e1 e2
    exact Src.of (nt_int d _ _) (by rw[lev6 (by simp[Exq.kind])];omega) (by rw[tE.eq_def];exact Nat.le_refl _)
   split at h
   ·injection h with h;injection h with e1 e2;subst e1 e2
    exact Src.of (nt_text d _ _) (by rw[lev6 (by simp[Exq.kind])];omega) (by rw[tE.eq_def];exact Nat.le_refl _)
   split at h
   ·injection h with h;injection h with e1 e2;subst e1 e2
    exact Src.of (nt_true d _) (by rw[lev6 (by simp[Exq.kind])];omega) (by rw[tE.eq_def];exact Nat.le_refl _)
   split at h
   ·injection h with h;injection h with e1 e2;subst e1 e2
    exact Src.of (nt_false d _) (by rw[lev6 (by simp[Exq.kind])];omega) (by rw[tE.eq_def];exact Nat.le_refl _)
   split at h
   ·obtain⟨⟨p,k⟩,h1,h⟩:=bd0 h
    obtain⟨k2,h2,h⟩:=bd0 h
    obtain⟨s,s24⟩:=ih.expr (d+1) (n+1) p k h1
    obtain⟨rfl,-⟩:=b10 h2
    injection h with h;injection h with e1 e2;subst e1 e2
    have l2:=s.len
    rw[tW0] at l2
    have hN:=s.fit.plain
    dsimp only
    refine⟨?_,?_⟩
    ·unfold tW inP
     split
     ·simp only[List.length_append,List.length_cons,List.length_nil];omega
     ·omega
    ·unfold Fit
     split
     ·exact⟨hN,s24⟩
     ·exact hN.mono (by omega)
   ·obtain⟨t,h1,h⟩:=bd0 h
    obtain⟨rfl,-,hr⟩:=la0 h1
    dsimp only at h
    split at h
    ·split at h
     ·injection h with h;injection h with e1 e2;subst e1 e2
      refine Src.of (nt_call d hr [] (λx hx=>by cases hx) (.inl rfl) _) (by rw[lev6 (by simp[Exq.kind])];omega) ?_
      rw[tE.eq_def];simp[iy0,sepT]
     ·obtain⟨⟨l,k⟩,h2,h⟩:=bd0 h
      injection h with h;injection h with e1 e2;subst e1 e2
      obtain⟨l',e,hne,a1,a2,a3⟩:=ih.args _ _ _ _ _ h2
      rw[List.nil_append] at e;subst e
      refine Src.of (nt_call d hr l a2 (.inr a1) _) (by rw[lev6 (by simp[Exq.kind])];omega) ?_
      have e:tE (.mk 7 0 0 (tk ts n).text 0 (bS []) l (tk ts n).at_)=[aG0 (sB (tk ts n).text)]++[ap0 [40]]++sepT (tL l)++[ap0 [41]]:=by rw[tE.eq_def];rfl
      have hl:=sepT_len l
      rw[if_neg hne] at hl
      rw[e];simp only[List.length_append,List.length_cons,List.length_nil];omega
    ·injection h with h;injection h with e1 e2;subst e1 e2
     exact Src.of (nt_name d hr _) (by rw[lev6 (by simp[Exq.kind])];omega) (by rw[tE.eq_def];exact Nat.le_refl _)
  ·intro d out n r m h
   rw[eP0] at h
   obtain⟨⟨p,k⟩,h1,h⟩:=bd0 h
   obtain⟨s,s24⟩:=ih.expr d n p k h1
   have l2:=s.len
   rw[tW0] at l2
   have hN:=s.fit.plain
   dsimp only at h
   split at h
   ·injection h with h;injection h with e1 e2;subst e1 e2
    exact⟨[p],rfl,by simp,s24,by simpa using hN,by simp;omega⟩
   ·obtain⟨k2,h2,h⟩:=bd0 h
    obtain⟨rfl,-⟩:=b10 h2
    obtain⟨l,e,hne,a1,a2,a3⟩:=ih.args d (out++[p]) (k+1) r m h
    refine⟨p::l,by rw[e];simp,by simp,s24,λa ha=>?_,by rw[List.map_cons,List.sum_cons];omega⟩
    rcases List.mem_cons.1 ha with rfl|ha
    ·exact hN
    ·exact a2 a ha
theorem fA0 {ts:List Tok} {f d n m:Nat} {x:Exq} (h:by0 ts f d n=.ok (x,m)):n+(tE x).length<=m/\PX d (tE x) (Lk x):=by
 obtain⟨s,s24⟩:=(srcA ts f).expr d n x m h
 have l2:=s.len
 rw[tW0] at l2
 exact⟨l2,s.fit.plain.px s24⟩
end Go.Am
end

section
namespace Go.Am
mutual
def eS:Stm->Stm
 | .mk k name slot state num e body els at_=>.mk k name slot state num (eL e) (eT body) (eT els) 0
def eT:List Stm->List Stm
 | []=>[]
 | x::l=>eS x::eT l
end
theorem km0 (k:Int) (name:ByteArray) (e:List Exq) (body els:List Stm) (a:Int):eS (stm0 k name e body els a)=stm0 k name (eL e) (eT body) (eT els) 0:=by unfold stm0;rw[eS.eq_def]
theorem eT_nil:eT []=[]:=by rw[eT.eq_def]
theorem kY0 (x:Stm) (l:List Stm):eT (x::l)=eS x::eT l:=by rw[eT.eq_def]
theorem eT_one {l:List Stm}:(eT l=[])=(l=[]):=by
 cases l with
 | nil=>simp[eT_nil]
 | cons x l=>simp[kY0]
def PS (d:Nat) (x:Stm):Prop:=∀ d',d'<=d->∀ ts n,Has ts n (tS x)->isT ts (n+(tS x).length) 1 bs0=false->∃ x',eS x'=eS x/\Ev (λf=>pStm ts f d' n) (.ok (x',n+(tS x).length))
def PB (d:Nat) (l:List Stm):Prop:=∀ d',d'<=d->∀ ts n,Has ts n (tB l)->∃ l',eT l'=eT l/\Ev (λf=>bc0 ts f d' n) (.ok (l',n+(tB l).length))
def HdS (x:Stm):Prop:=∃ w U,tS x=aG0 w::U/\w≠bs0
theorem sV0 {d:Nat}:∀ (l:List Stm),(∀ x∈l,PS d x/\HdS x)->∀ d',d'<=d->∀ ts n out,Has ts n (tkT l++[ap0 [125]]) ->
  ∃ l',eT l'=eT l/\Ev (λf=>g40 ts f d' out n) (.ok (out++l',n+(tkT l).length+1))
 | [],h,d',hd,ts,n,out,hT=>by
  have e:tkT []=[]:=by rw[tkT.eq_def]
  rw[e,List.nil_append] at hT
  obtain⟨h1,-⟩:=hT.cons
  refine⟨[],rfl,?_⟩
  rw[e,List.append_nil]
  exact (Ev.same (g:=λ_=>(.ok (out,n+1):PR (List Stm))) λ_=>rfl).succ λf=>by rw[g40,aL0 h1,if_pos (by simp)]
 | x::l,h,d',hd,ts,n,out,hT=>by
  have e:tkT (x::l)=tS x++tkT l:=by rw[tkT.eq_def]
  rw[e,List.append_assoc] at hT
  obtain⟨hS,hr⟩:=hT.append
  obtain⟨hx,w,U,e1,e2⟩:=h x (by simp)
  have hnext:isT ts (n+(tS x).length) 1 bs0=false:=by
   cases l with
   | nil =>
    have e0:tkT []=[]:=by rw[tkT.eq_def]
    rw[e0,List.nil_append] at hr
    obtain⟨h1,-⟩:=hr.cons
    rw[aL0 h1];simp
   | cons y l =>
    obtain⟨_,w',U',e1',e2'⟩:=h y (by simp)
    have e0:tkT (y::l)=tS y++tkT l:=by rw[tkT.eq_def]
    rw[e0,e1',List.cons_append,List.cons_append] at hr
    obtain⟨h1,-⟩:=hr.cons
    rw[aL0 h1];simp[e2']
  have hn0:isT ts n 4 [125]=false:=by
   rw[e1] at hS
   obtain⟨h1,-⟩:=hS.cons
   rw[aL0 h1];simp
  obtain⟨x',g1,g2⟩:=hx d' hd ts n hS hnext
  obtain⟨l',g3,g4⟩:=sV0 l (λy hy=>h y (by simp[hy])) d' hd ts (n+(tS x).length) (out++[x']) hr
  refine⟨x'::l',by rw[kY0,kY0,g1,g3],?_⟩
  have el:n+(tkT (x::l)).length+1=n+(tS x).length+(tkT l).length+1:=by rw[e,List.length_append];omega
  rw[el,show out++x'::l'=out++[x']++l' by simp]
  have:=Ev.bind (k:=λf p=>g40 ts f d' (out++[p.1]) p.2) g2 g4
  exact this.succ λf=>by rw[g40,if_neg (by rw[hn0];simp)]
theorem pb_of {d:Nat} {l:List Stm} (hd:d<=24) (h:∀ x∈l,PS d x/\HdS x):PB d l:=λd' hd' ts n hT=>by
 unfold tB at hT
 rw[List.append_assoc,List.cons_append,List.nil_append] at hT
 obtain⟨h0,hT⟩:=hT.cons
 obtain⟨l',g1,g2⟩:=sV0 l h d' hd' ts (n+1) [] hT
 refine⟨l',g1,?_⟩
 have el:n+(tB l).length=n+1+(tkT l).length+1:=by unfold tB;simp only[List.length_append,List.length_cons,List.length_nil];omega
 rw[el]
 exact g2.succ λf=>by
  rw[bc0]
  unfold hs0
  rw[if_neg (by omega),bf0 h0]
  rfl
theorem PX.mark {d:Nat} {x:Exq} (h:PX d (tE x) (Lk x)) {d':Nat} (hd:d'<=d) {ts:List Tok} {n:Nat} {s:Bs} {R:List TD} (hT:Has ts n (tE x++ap0 s::R)) (h1:pOps.contains s=false:=by decide) (h2:s≠[91]:=by decide) (h3:s≠[40]:=by decide) :
  ∃ x',eE x'=eE x/\Ev (λf=>by0 ts f d' n) (.ok (x',n+(tE x).length))/\(tk ts (n+(tE x).length)).td=ap0 s/\Has ts (n+(tE x).length+1) R:=by
 obtain⟨hX,hr⟩:=hT.append
 obtain⟨hm,hr⟩:=hr.cons
 obtain⟨x',g1,g2⟩:=h d' hd ts n hX (g00 hm h2 h3) (jH0 hm h1)
 exact⟨x',g1,g2,hm,hr⟩
theorem isW {ts:List Tok} {n:Nat} {w:Bs} (h:(tk ts n).td=aG0 w) (s:Bs):isT ts n 1 s=decide (w=s):=by rw[aL0 h];simp
section
variable {d:Nat} {w:ByteArray}
theorem ps_let (hw:bt0 w=false) {x:Exq} (hx:PX (d+1) (tE x) (Lk x)) (a:Int):PS d (stm0 1 w [x] [] [] a)/\tS (stm0 1 w [x] [] [] a)=[aG0 ev0]++[aG0 (sB w)]++[ap0 [61]]++tE x++[ap0 [59]]:=by
 have e:tS (stm0 1 w [x] [] [] a)=[aG0 ev0]++[aG0 (sB w)]++[ap0 [61]]++tE x++[ap0 [59]]:=by unfold stm0;rw[tS.eq_def];dsimp only;rw[iy0];rfl
 refine⟨λd' hd ts n hT _=>?_,e⟩
 rw[e] at hT ⊢
 simp only[List.append_assoc,List.cons_append,List.nil_append] at hT
 obtain⟨h0,hT⟩:=hT.cons
 obtain⟨h1,hT⟩:=hT.cons
 obtain⟨h2,hT⟩:=hT.cons
 obtain⟨x',g1,g2,h3,-⟩:=hx.mark (by omega:d'+1<=d+1) hT
 obtain⟨n1,n2⟩:=hP0 hw h1
 refine⟨stm0 1 w [x'] [] [] (tk ts n).at_,by rw[km0,km0,aU0,aU0,g1],?_⟩
 have el:n+([aG0 ev0]++[aG0 (sB w)]++[ap0 [61]]++tE x++[ap0 [59]]).length=n+1+1+1+(tE x).length+1:=by simp only[List.length_append,List.length_cons,List.length_nil];omega
 rw[el]
 have:=Ev.bind (k:=λf p=>(aX0 ts p.2 [59]).bind λn2=>(.ok (stm0 1 w [p.1] [] [] (tk ts n).at_,n2):PR Stm)) g2 (r:=.ok (stm0 1 w [x'] [] [] (tk ts n).at_,n+1+1+1+(tE x).length+1)) (Ev.same λf=>by dsimp only;rw[bf0 h3];rfl)
 exact this.succ λf=>by
  rw[pStm,isW h0,if_pos (by decide),n1,LxR.bind,n2,bf0 h2];rfl
theorem ps_set (hw:bt0 w=false) {x:Exq} (hx:PX (d+1) (tE x) (Lk x)) (a:Int):PS d (stm0 2 w [x] [] [] a)/\tS (stm0 2 w [x] [] [] a)=[aG0 cS0]++[aG0 (sB w)]++[ap0 [61]]++tE x++[ap0 [59]]:=by
 have e:tS (stm0 2 w [x] [] [] a)=[aG0 cS0]++[aG0 (sB w)]++[ap0 [61]]++tE x++[ap0 [59]]:=by unfold stm0;rw[tS.eq_def];dsimp only;rw[iy0];rfl
 refine⟨λd' hd ts n hT _=>?_,e⟩
 rw[e] at hT ⊢
 simp only[List.append_assoc,List.cons_append,List.nil_append] at hT
 obtain⟨h0,hT⟩:=hT.cons
 obtain⟨h1,hT⟩:=hT.cons
 obtain⟨h2,hT⟩:=hT.cons
 obtain⟨x',g1,g2,h3,-⟩:=hx.mark (by omega:d'+1<=d+1) hT
 obtain⟨n1,n2⟩:=hP0 hw h1
 refine⟨stm0 2 w [x'] [] [] (tk ts n).at_,by rw[km0,km0,aU0,aU0,g1],?_⟩
 have el:n+([aG0 cS0]++[aG0 (sB w)]++[ap0 [61]]++tE x++[ap0 [59]]).length=n+1+1+1+(tE x).length+1:=by simp only[List.length_append,List.length_cons,List.length_nil];omega
 rw[el]
 have:=Ev.bind (k:=λf p=>(aX0 ts p.2 [59]).bind λn2=>(.ok (stm0 2 w [p.1] [] [] (tk ts n).at_,n2):PR Stm)) g2 (r:=.ok (stm0 2 w [x'] [] [] (tk ts n).at_,n+1+1+1+(tE x).length+1)) (Ev.same λf=>by dsimp only;rw[bf0 h3];rfl)
 exact this.succ λf=>by
  rw[pStm,isW h0,isW h0,if_neg (by decide),if_pos (by decide),n1,LxR.bind]
  dsimp only
  rw[aL0 h2,if_neg (by simp),n2,bf0 h2];rfl
theorem ps_put (hw:bt0 w=false) {x y:Exq} (hx:PX (d+1) (tE x) (Lk x)) (hy:PX (d+1) (tE y) (Lk y)) (a:Int) :
  PS d (stm0 2 w [x,y] [] [] a)/\tS (stm0 2 w [x,y] [] [] a)=[aG0 cS0]++[aG0 (sB w)]++[ap0 [91]]++tE x++[ap0 [93]]++[ap0 [61]]++tE y++[ap0 [59]]:=by
 have e:tS (stm0 2 w [x,y] [] [] a)=[aG0 cS0]++[aG0 (sB w)]++[ap0 [91]]++tE x++[ap0 [93]]++[ap0 [61]]++tE y++[ap0 [59]]:=by unfold stm0;rw[tS.eq_def];dsimp only;rw[iy0];rfl
 refine⟨λd' hd ts n hT _=>?_,e⟩
 rw[e] at hT ⊢
 simp only[List.append_assoc,List.cons_append,List.nil_append] at hT
 obtain⟨h0,hT⟩:=hT.cons
 obtain⟨h1,hT⟩:=hT.cons
 obtain⟨h2,hT⟩:=hT.cons
 obtain⟨x',g1,g2,h3,hT⟩:=hx.mark (by omega:d'+1<=d+1) hT
 obtain⟨h4,hT⟩:=hT.cons
 obtain⟨y',g3,g4,h5,-⟩:=hy.mark (by omega:d'+1<=d+1) hT
 obtain⟨n1,n2⟩:=hP0 hw h1
 refine⟨stm0 2 w [x',y'] [] [] (tk ts n).at_,by rw[km0,km0,aU0,aU0,aU0,aU0,g1,g3],?_⟩
 have el:n+([aG0 cS0]++[aG0 (sB w)]++[ap0 [91]]++tE x++[ap0 [93]]++[ap0 [61]]++tE y++[ap0 [59]]).length=n+1+1+1+(tE x).length+1+1+(tE y).length+1:=by simp only[List.length_append,List.length_cons,List.length_nil];omega
 rw[el]
 have t2:=Ev.bind (k:=λf q=>(aX0 ts q.2 [59]).bind λn3=>(.ok (stm0 2 w [x',q.1] [] [] (tk ts n).at_,n3):PR Stm)) g4 (r:=.ok (stm0 2 w [x',y'] [] [] (tk ts n).at_,n+1+1+1+(tE x).length+1+1+(tE y).length+1)) (Ev.same λf=>by dsimp only;rw[bf0 h5];rfl)
 have:=Ev.bind (k:=λf p=>(aX0 ts p.2 [93]).bind λn1=>(aX0 ts n1 [61]).bind λn2=>(by0 ts f (d'+1) n2).bind λq=>(aX0 ts q.2 [59]).bind λn3=>(.ok (stm0 2 w [p.1,q.1] [] [] (tk ts n).at_,n3):PR Stm)) g2 (t2.of λf=>by dsimp only;rw[bf0 h3,LxR.bind,bf0 h4];rfl)
 exact this.succ λf=>by
  rw[pStm,isW h0,isW h0,if_neg (by decide),if_pos (by decide),n1,LxR.bind]
  dsimp only
  rw[aL0 h2,if_pos (by simp),n2]
theorem ps_del (hw:bt0 w=false) {x:Exq} (hx:PX (d+1) (tE x) (Lk x)) (a:Int):PS d (stm0 3 w [x] [] [] a)/\tS (stm0 3 w [x] [] [] a)=[aG0 es0]++[aG0 (sB w)]++[ap0 [91]]++tE x++[ap0 [93]]++[ap0 [59]]:=by
 have e:tS (stm0 3 w [x] [] [] a)=[aG0 es0]++[aG0 (sB w)]++[ap0 [91]]++tE x++[ap0 [93]]++[ap0 [59]]:=by unfold stm0;rw[tS.eq_def];dsimp only;rw[iy0];rfl
 refine⟨λd' hd ts n hT _=>?_,e⟩
 rw[e] at hT ⊢
 simp only[List.append_assoc,List.cons_append,List.nil_append] at hT
 obtain⟨h0,hT⟩:=hT.cons
 obtain⟨h1,hT⟩:=hT.cons
 obtain⟨h2,hT⟩:=hT.cons
 obtain⟨x',g1,g2,h3,hT⟩:=hx.mark (by omega:d'+1<=d+1) hT
 obtain⟨h4,-⟩:=hT.cons
 obtain⟨n1,n2⟩:=hP0 hw h1
 refine⟨stm0 3 w [x'] [] [] (tk ts n).at_,by rw[km0,km0,aU0,aU0,g1],?_⟩
 have el:n+([aG0 es0]++[aG0 (sB w)]++[ap0 [91]]++tE x++[ap0 [93]]++[ap0 [59]]).length=n+1+1+1+(tE x).length+1+1:=by simp only[List.length_append,List.length_cons,List.length_nil];omega
 rw[el]
 have:=Ev.bind (k:=λf p=>(aX0 ts p.2 [93]).bind λn2=>(aX0 ts n2 [59]).bind λn3=>(.ok (stm0 3 w [p.1] [] [] (tk ts n).at_,n3):PR Stm)) g2 (r:=.ok (stm0 3 w [x'] [] [] (tk ts n).at_,n+1+1+1+(tE x).length+1+1)) (Ev.same λf=>by dsimp only;rw[bf0 h3,LxR.bind,bf0 h4];rfl)
 exact this.succ λf=>by
  rw[pStm,isW h0,isW h0,isW h0,if_neg (by decide),if_neg (by decide),if_pos (by decide),n1,LxR.bind,n2,bf0 h2];rfl
theorem ps_ret {x:Exq} (hx:PX (d+1) (tE x) (Lk x)) (a:Int):PS d (stm0 6 (bS []) [x] [] [] a)/\tS (stm0 6 (bS []) [x] [] [] a)=[aG0 ew0]++tE x++[ap0 [59]]:=by
 have e:tS (stm0 6 (bS []) [x] [] [] a)=[aG0 ew0]++tE x++[ap0 [59]]:=by unfold stm0;rw[tS.eq_def];dsimp only;rw[iy0];rfl
 refine⟨λd' hd ts n hT _=>?_,e⟩
 rw[e] at hT ⊢
 simp only[List.append_assoc,List.cons_append,List.nil_append] at hT
 obtain⟨h0,hT⟩:=hT.cons
 obtain⟨x',g1,g2,h3,-⟩:=hx.mark (by omega:d'+1<=d+1) hT
 refine⟨stm0 6 (bS []) [x'] [] [] (tk ts n).at_,by rw[km0,km0,aU0,aU0,g1],?_⟩
 have el:n+([aG0 ew0]++tE x++[ap0 [59]]).length=n+1+(tE x).length+1:=by simp only[List.length_append,List.length_cons,List.length_nil];omega
 rw[el]
 have:=Ev.bind (k:=λf p=>(aX0 ts p.2 [59]).bind λn2=>(.ok (stm0 6 (bS []) [p.1] [] [] (tk ts n).at_,n2):PR Stm)) g2 (r:=.ok (stm0 6 (bS []) [x'] [] [] (tk ts n).at_,n+1+(tE x).length+1)) (Ev.same λf=>by dsimp only;rw[bf0 h3];rfl)
 exact this.succ λf=>by
  rw[pStm,isW h0,isW h0,isW h0,isW h0,isW h0,isW h0,if_neg (by decide),if_neg (by decide),if_neg (by decide),if_neg (by decide),if_neg (by decide),if_pos (by decide)]
theorem tB_head (l:List Stm):tB l=ap0 [123]::(tkT l++[ap0 [125]]):=by unfold tB;simp
theorem ps_for (hw:bt0 w=false) {x:Exq} (hx:PX (d+1) (tE x) (Lk x)) {b:List Stm} (hb:PB (d+1) b) (a:Int):PS d (stm0 5 w [x] b [] a)/\tS (stm0 5 w [x] b [] a)=[aG0 et0]++[aG0 (sB w)]++[aG0 kwTo]++tE x++tB b:=by
 have e:tS (stm0 5 w [x] b [] a)=[aG0 et0]++[aG0 (sB w)]++[aG0 kwTo]++tE x++tB b:=by unfold stm0;rw[tS.eq_def];dsimp only;rw[iy0];rfl
 refine⟨λd' hd ts n hT _=>?_,e⟩
 rw[e] at hT ⊢
 simp only[List.append_assoc,List.cons_append,List.nil_append] at hT
 obtain⟨h0,hT⟩:=hT.cons
 obtain⟨h1,hT⟩:=hT.cons
 obtain⟨h2,hT⟩:=hT.cons
 have hB:=hT.append.2
 rw[tB_head] at hT
 obtain⟨x',g1,g2,h3,-⟩:=hx.mark (by omega:d'+1<=d+1) hT
 obtain⟨b',g3,g4⟩:=hb (d'+1) (by omega) ts _ hB
 obtain⟨n1,n2⟩:=hP0 hw h1
 refine⟨stm0 5 w [x'] b' [] (tk ts n).at_,by rw[km0,km0,aU0,aU0,g1,g3],?_⟩
 have el:n+([aG0 et0]++[aG0 (sB w)]++[aG0 kwTo]++tE x++tB b).length=n+1+1+1+(tE x).length+(tB b).length:=by simp only[List.length_append,List.length_cons,List.length_nil];omega
 rw[el]
 have t2:=Ev.bind (k:=λf q=>(.ok (stm0 5 w [x'] q.1 [] (tk ts n).at_,q.2):PR Stm)) g4 (Ev.same λf=>rfl)
 have:=Ev.bind (k:=λf p=>(bc0 ts f (d'+1) p.2).bind λb=>(.ok (stm0 5 w [p.1] b.1 [] (tk ts n).at_,b.2):PR Stm)) g2 t2
 exact this.succ λf=>by
  rw[pStm,isW h0,isW h0,isW h0,isW h0,isW h0,if_neg (by decide),if_neg (by decide),if_neg (by decide),if_neg (by decide),if_pos (by decide),n1,LxR.bind,n2]
  unfold kA0
  rw[isW h2,if_pos (by decide)]
  rfl
theorem ps_if {x:Exq} (hx:PX (d+1) (tE x) (Lk x)) {b:List Stm} (hb:PB (d+1) b) {c:List Stm} (hc:c=[]\/PB (d+1) c) (a:Int) :
  PS d (stm0 4 (bS []) [x] b c a)/\tS (stm0 4 (bS []) [x] b c a)=[aG0 kwIf]++tE x++tB b++(if c=[] then [] else [aG0 bs0]++tB c):=by
 have e:tS (stm0 4 (bS []) [x] b c a)=[aG0 kwIf]++tE x++tB b++(if c=[] then [] else [aG0 bs0]++tB c):=by unfold stm0;rw[tS.eq_def];dsimp only;rw[iy0];rfl
 refine⟨λd' hd ts n hT hE=>?_,e⟩
 rw[e] at hT hE ⊢
 simp only[List.append_assoc,List.cons_append,List.nil_append] at hT
 obtain⟨h0,hT⟩:=hT.cons
 have hT2:=hT
 rw[tB_head,List.cons_append] at hT
 obtain⟨x',g1,g2,h3,-⟩:=hx.mark (by omega:d'+1<=d+1) hT
 obtain⟨hB,hC⟩:=hT2.append.2.append
 obtain⟨b',g3,g4⟩:=hb (d'+1) (by omega) ts _ hB
 by_cases hc0:c=[]
 ·subst hc0
  rw[if_pos rfl] at hE ⊢
  refine⟨stm0 4 (bS []) [x'] b' [] (tk ts n).at_,by rw[km0,km0,aU0,aU0,g1,g3],?_⟩
  have el:n+([aG0 kwIf]++tE x++tB b++[]).length=n+1+(tE x).length+(tB b).length:=by simp only[List.length_append,List.length_cons,List.length_nil];omega
  rw[el] at hE ⊢
  have t2:=Ev.bind (k:=λf q=>if isT ts q.2 1 bs0 then (bc0 ts f (d'+1) (q.2+1)).bind λc=>(.ok (stm0 4 (bS []) [x'] q.1 c.1 (tk ts n).at_,c.2):PR Stm) else .ok (stm0 4 (bS []) [x'] q.1 [] (tk ts n).at_,q.2)) g4 (r:=.ok (stm0 4 (bS []) [x'] b' [] (tk ts n).at_,n+1+(tE x).length+(tB b).length)) (Ev.same λf=>by
   dsimp only;rw[if_neg (by rw[hE];simp)])
  have:=Ev.bind (k:=λf p=>(bc0 ts f (d'+1) p.2).bind λq=>if isT ts q.2 1 bs0 then (bc0 ts f (d'+1) (q.2+1)).bind λc=>(.ok (stm0 4 (bS []) [p.1] q.1 c.1 (tk ts n).at_,c.2):PR Stm) else .ok (stm0 4 (bS []) [p.1] q.1 [] (tk ts n).at_,q.2)) g2 t2
  exact this.succ λf=>by
   rw[pStm,isW h0,isW h0,isW h0,isW h0,if_neg (by decide),if_neg (by decide),if_neg (by decide),if_pos (by decide)]
 ·have hc:=hc.resolve_left hc0
  rw[if_neg hc0] at hC ⊢
  obtain⟨h4,hC⟩:=hC.cons
  obtain⟨c',g5,g6⟩:=hc (d'+1) (by omega) ts _ hC
  refine⟨stm0 4 (bS []) [x'] b' c' (tk ts n).at_,by rw[km0,km0,aU0,aU0,g1,g3,g5],?_⟩
  have el:n+([aG0 kwIf]++tE x++tB b++([aG0 bs0]++tB c)).length=n+1+(tE x).length+(tB b).length+1+(tB c).length:=by simp only[List.length_append,List.length_cons,List.length_nil];omega
  rw[el]
  have t3:=Ev.bind (k:=λf c=>(.ok (stm0 4 (bS []) [x'] b' c.1 (tk ts n).at_,c.2):PR Stm)) g6 (Ev.same λf=>rfl)
  have t2:=Ev.bind (k:=λf q=>if isT ts q.2 1 bs0 then (bc0 ts f (d'+1) (q.2+1)).bind λc=>(.ok (stm0 4 (bS []) [x'] q.1 c.1 (tk ts n).at_,c.2):PR Stm) else .ok (stm0 4 (bS []) [x'] q.1 [] (tk ts n).at_,q.2)) g4 (t3.of λf=>by
   dsimp only;rw[isW h4,if_pos (by decide)])
  have:=Ev.bind (k:=λf p=>(bc0 ts f (d'+1) p.2).bind λq=>if isT ts q.2 1 bs0 then (bc0 ts f (d'+1) (q.2+1)).bind λc=>(.ok (stm0 4 (bS []) [p.1] q.1 c.1 (tk ts n).at_,c.2):PR Stm) else .ok (stm0 4 (bS []) [p.1] q.1 [] (tk ts n).at_,q.2)) g2 t2
  exact this.succ λf=>by
   rw[pStm,isW h0,isW h0,isW h0,isW h0,if_neg (by decide),if_neg (by decide),if_neg (by decide),if_pos (by decide)]
end
end Go.Am
end

section
namespace Go.Am
structure SrcS (ts:List Tok) (f:Nat):Prop where
 block:∀ d n l m,bc0 ts f d n=.ok (l,m)->n+(tB l).length<=m/\PB d l
 stms:∀ d out n r m,g40 ts f d out n=.ok (r,m)->∃ l,r=out++l/\n+(tkT l).length+1<=m/\∀ x∈l,PS d x/\HdS x
 stm:∀ d n x m,pStm ts f d n=.ok (x,m)->n+(tS x).length<=m/\PS d x/\HdS x
theorem pWord_k {ts:List Tok} {n m:Nat} {s:Bs} (h:kA0 ts n s=.ok m):m=n+1:=by
 unfold kA0 at h
 split at h
 ·injection h with h;exact h.symm
 ·cases h
theorem tB_len (l:List Stm):(tB l).length=(tkT l).length+2:=by unfold tB;simp only[List.length_append,List.length_cons,List.length_nil];omega
theorem srcS (ts:List Tok):∀ f,SrcS ts f
 | 0=>by
  constructor
  ·intro d n l m h;rw[bc0] at h;cases h
  ·intro d out n r m h;rw[g40] at h;cases h
  ·intro d n x m h;rw[pStm] at h;cases h
 | f+1=>by
  have ih:=srcS ts f
  constructor
  ·intro d n l m h
   rw[bc0] at h
   obtain⟨u,h1,h⟩:=bd0 h
   obtain⟨k,h2,h⟩:=bd0 h
   obtain⟨rfl,-⟩:=b10 h2
   obtain⟨l',e,a1,a2⟩:=ih.stms d [] (n+1) l m h
   rw[List.nil_append] at e;subst e
   exact⟨by rw[tB_len];omega,pb_of (pU0 h1) a2⟩
  ·intro d out n r m h
   rw[g40] at h
   split at h
   ·injection h with h;injection h with e1 e2;subst e1 e2
    exact⟨[],by simp,by rw[tkT.eq_def];simp,λx hx=>by cases hx⟩
   ·obtain⟨⟨x,k⟩,h1,h⟩:=bd0 h
    obtain⟨b1,b2⟩:=ih.stm d n x k h1
    obtain⟨l,e,a1,a2⟩:=ih.stms d (out++[x]) k r m h
    refine⟨x::l,by rw[e];simp,?_,λy hy=>?_⟩
    ·have e0:tkT (x::l)=tS x++tkT l:=by rw[tkT.eq_def]
     rw[e0,List.length_append];omega
    ·rcases List.mem_cons.1 hy with rfl|hy
     ·exact b2
     ·exact a2 y hy
  ·intro d n x m h
   rw[pStm] at h
   split at h
   ·obtain⟨t,h1,h⟩:=bd0 h
    obtain⟨rfl,-,hr⟩:=la0 h1
    obtain⟨k1,h2,h⟩:=bd0 h
    obtain⟨rfl,-⟩:=b10 h2
    obtain⟨⟨p,k⟩,h3,h⟩:=bd0 h
    obtain⟨k2,h4,h⟩:=bd0 h
    obtain⟨rfl,-⟩:=b10 h4
    obtain⟨c1,c2⟩:=fA0 h3
    injection h with h;injection h with e1 e2;subst e1 e2
    obtain⟨b1,b2⟩:=ps_let (w:=(tk ts (n+1)).text) hr c2 (tk ts n).at_
    refine⟨?_,b1,_,_,by rw[b2];rfl,by decide⟩
    rw[b2];dsimp only at *;simp only[List.length_append,List.length_cons,List.length_nil];omega
   split at h
   ·obtain⟨t,h1,h⟩:=bd0 h
    obtain⟨rfl,-,hr⟩:=la0 h1
    split at h
    ·obtain⟨⟨p,k⟩,h3,h⟩:=bd0 h
     obtain⟨k1,h2,h⟩:=bd0 h
     obtain⟨rfl,-⟩:=b10 h2
     obtain⟨k2,h4,h⟩:=bd0 h
     obtain⟨rfl,-⟩:=b10 h4
     obtain⟨⟨q,k3⟩,h5,h⟩:=bd0 h
     obtain⟨k4,h6,h⟩:=bd0 h
     obtain⟨rfl,-⟩:=b10 h6
     obtain⟨c1,c2⟩:=fA0 h3
     obtain⟨c3,c4⟩:=fA0 h5
     injection h with h;injection h with e1 e2;subst e1 e2
     obtain⟨b1,b2⟩:=ps_put (w:=(tk ts (n+1)).text) hr c2 c4 (tk ts n).at_
     refine⟨?_,b1,_,_,by rw[b2];rfl,by decide⟩
     rw[b2];dsimp only at *;simp only[List.length_append,List.length_cons,List.length_nil];omega
    ·obtain⟨k1,h2,h⟩:=bd0 h
     obtain⟨rfl,-⟩:=b10 h2
     obtain⟨⟨p,k⟩,h3,h⟩:=bd0 h
     obtain⟨k2,h4,h⟩:=bd0 h
     obtain⟨rfl,-⟩:=b10 h4
     obtain⟨c1,c2⟩:=fA0 h3
     injection h with h;injection h with e1 e2;subst e1 e2
     obtain⟨b1,b2⟩:=ps_set (w:=(tk ts (n+1)).text) hr c2 (tk ts n).at_
     refine⟨?_,b1,_,_,by rw[b2];rfl,by decide⟩
     rw[b2];dsimp only at *;simp only[List.length_append,List.length_cons,List.length_nil];omega
   split at h
   ·obtain⟨t,h1,h⟩:=bd0 h
    obtain⟨rfl,-,hr⟩:=la0 h1
    obtain⟨k1,h2,h⟩:=bd0 h
    obtain⟨rfl,-⟩:=b10 h2
    obtain⟨⟨p,k⟩,h3,h⟩:=bd0 h
    obtain⟨k2,h4,h⟩:=bd0 h
    obtain⟨rfl,-⟩:=b10 h4
    obtain⟨k3,h5,h⟩:=bd0 h
    obtain⟨rfl,-⟩:=b10 h5
    obtain⟨c1,c2⟩:=fA0 h3
    injection h with h;injection h with e1 e2;subst e1 e2
    obtain⟨b1,b2⟩:=ps_del (w:=(tk ts (n+1)).text) hr c2 (tk ts n).at_
    refine⟨?_,b1,_,_,by rw[b2];rfl,by decide⟩
    rw[b2];dsimp only at *;simp only[List.length_append,List.length_cons,List.length_nil];omega
   split at h
   ·obtain⟨⟨p,k⟩,h3,h⟩:=bd0 h
    obtain⟨⟨b,k1⟩,h4,h⟩:=bd0 h
    obtain⟨c1,c2⟩:=fA0 h3
    obtain⟨a1,a2⟩:=ih.block (d+1) k b k1 h4
    dsimp only at h
    split at h
    ·obtain⟨⟨c,k2⟩,h5,h⟩:=bd0 h
     obtain⟨a3,a4⟩:=ih.block (d+1) (k1+1) c k2 h5
     injection h with h;injection h with e1 e2;subst e1 e2
     obtain⟨b1,b2⟩:=ps_if c2 a2 (.inr a4) (tk ts n).at_
     refine⟨?_,b1,_,_,by rw[b2];rfl,by decide⟩
     rw[b2];dsimp only at *
     split
     ·simp only[List.length_append,List.length_cons,List.length_nil];omega
     ·simp only[List.length_append,List.length_cons,List.length_nil];omega
    ·injection h with h;injection h with e1 e2;subst e1 e2
     obtain⟨b1,b2⟩:=ps_if c2 a2 (c:=[]) (.inl rfl) (tk ts n).at_
     refine⟨?_,b1,_,_,by rw[b2];rfl,by decide⟩
     rw[b2,if_pos rfl];dsimp only at *;simp only[List.length_append,List.length_cons,List.length_nil];omega
   split at h
   ·obtain⟨t,h1,h⟩:=bd0 h
    obtain⟨rfl,-,hr⟩:=la0 h1
    obtain⟨k1,h2,h⟩:=bd0 h
    obtain rfl:=pWord_k h2
    obtain⟨⟨p,k⟩,h3,h⟩:=bd0 h
    obtain⟨⟨b,k2⟩,h4,h⟩:=bd0 h
    obtain⟨c1,c2⟩:=fA0 h3
    obtain⟨a1,a2⟩:=ih.block (d+1) k b k2 h4
    injection h with h;injection h with e1 e2;subst e1 e2
    obtain⟨b1,b2⟩:=ps_for (w:=(tk ts (n+1)).text) hr c2 a2 (tk ts n).at_
    refine⟨?_,b1,_,_,by rw[b2];rfl,by decide⟩
    rw[b2];dsimp only at *;simp only[List.length_append,List.length_cons,List.length_nil];omega
   split at h
   ·obtain⟨⟨p,k⟩,h3,h⟩:=bd0 h
    obtain⟨k2,h4,h⟩:=bd0 h
    obtain⟨rfl,-⟩:=b10 h4
    obtain⟨c1,c2⟩:=fA0 h3
    injection h with h;injection h with e1 e2;subst e1 e2
    obtain⟨b1,b2⟩:=ps_ret c2 (tk ts n).at_
    refine⟨?_,b1,_,_,by rw[b2];rfl,by decide⟩
    rw[b2];dsimp only at *;simp only[List.length_append,List.length_cons,List.length_nil];omega
   ·cases h
end Go.Am
end
