/- ShowLines of the given program, part 5 of 5 of the proof: for all arguments within the bound the law answers true, and each argument reads behind the call as before. Conditions: those of the given card. -/
import Derived.Test.YtnlggapedakocaaGreatDoorZ4
import Derived.Shelf.Strings.Count
import Derived.Test.YtnlggapedakocaaGreatDoorProg
import Derived.Tactics
import Derived.Tactics2
import Derived.Defers
import Derived.Laws.Pointers
import Derived.Laws.LoneSync
import Derived.Laws.NewBlocks
import Derived.RegionTactic
import Derived.RegionCalls
import Derived.ChangeAlike
import Derived.Lib.ItoaLen
import Derived.Test.YtnlggapedakocaaGreatDoorCards
set_option maxHeartbeats 1600000
set_option linter.all false
set_option linter.unusedVariables false
set_option linter.unusedSimpArgs false
set_option linter.unnecessarySimpa false
section
namespace Go.Am
set_option maxRecDepth 100000
attribute [local irreducible] vc vcIs vcI vcOp vcD vcDp vcDR vcT vcAR bY0 aX0 panD neG ne pv J bJ0 bP0 b20 bc0 evK evsK nthK objK boxK rowK bC0 intK strK aggK fnK ifcK ay0 az0 ldK ldaK iaK srcK stK appK appD b40 pvK bD0 aV0 bO0 bs0 slAV bI0
theorem rV0 (s:ByteArray) (i:Nat) (h:(s.get! i).toNat < 128):Utf8.decode s i=((s.get! i).toNat,1):=by
 unfold Utf8.decode
 simp [h]
theorem decode_high (s:ByteArray) (i:Nat) (h:¬ (s.get! i).toNat < 128):128<=(Utf8.decode s i).1:=by
 unfold Utf8.decode
 have h0:¬ (s.get! (i + 0)).toNat < 128:=h
 simp only [if_neg h0]
 repeat' split
 all_goals first | (simp [Utf8.runeError]; done) | (dsimp only; omega) | (rename_i hh; simp only [Bool.and_eq_true,decide_eq_true_eq,ge_iff_le] at hh; dsimp only; omega)
def plR (r:Nat):Bool:=decide (r < 32) || decide (126 < r)
theorem pA0 (s:ByteArray):∀ (f pos:Nat),s.size<=pos + f->(Lib.idxFuncFrom plR true s f pos < 0 ↔ ∀ j,pos<=j->j < s.size->32<=(s.get! j).toNat/\(s.get! j).toNat<=126)
 | 0,pos,h=>by simp [Lib.idxFuncFrom]; intro j h1 h2; omega
 | f + 1,pos,h=>by
  rw [Lib.idxFuncFrom]
  by_cases hp:pos < s.size
  ·rw [if_pos hp]
   by_cases hl:(s.get! pos).toNat < 128
   ·rw [rV0 s pos hl]
    dsimp only
    by_cases hb:plR (s.get! pos).toNat=true
    ·rw [if_pos hb]
     constructor
     ·intro h'; omega
     ·intro h'
      have:=h' pos (Nat.le_refl _) hp
      simp only [plR,Bool.or_eq_true,decide_eq_true_eq] at hb
      omega
    ·rw [if_neg hb,pA0 s f (pos + 1) (by omega)]
     simp only [plR,Bool.or_eq_true,decide_eq_true_eq] at hb
     constructor
     ·intro h' j h1 h2
      by_cases e:j=pos
      ·subst e; omega
      ·exact h' j (by omega) h2
     ·intro h' j h1 h2; exact h' j (by omega) h2
   ·have hd:=decode_high s pos hl
    rw [if_pos (by simp only [plR,Bool.or_eq_true,decide_eq_true_eq]; omega)]
    constructor
    ·intro h'; omega
    ·intro h'; have:=h' pos (Nat.le_refl _) hp; omega
  ·rw [if_neg hp]
   simp
   intro j h1 h2; omega
theorem pg0 (x:Int) (h0:0<=x) (h1:x<=1114111):Ret prog hV0 [.c (.int .i32 x)] (vB (decide (x < 32) || decide (126 < x))):=by
 refine cZ0 nt0 (by simp) ?_
 exact rT1 @jU0.eq_1
theorem J.belows {f:FuncId} {fn:Func} {c:Code} {args:List V} {v:V} (hf:prog.funcs[f]?=some fn) (hn:(fn.name == "runtime.NumGoroutine")=false) (hb:fn.body=some c) (h:Ret prog f args v)
  {H:Imm} {μ:Mu} {us:Array Value} {w:World} (h3:RL H μ args us) (hW:Wd H μ (hpE 0 []) w) :
  Calls prog f us w fun e w'=>(∃ x H' μ',e=.returned x/\R H' μ' v x)/\Go.RowKit.Below w.heap.size w w':=by
 have hn':¬ fn.name = "runtime.NumGoroutine":=by simpa using hn
 have hrun:(callFunc f us).run prog w=.ok (.enter f us) w:=by simp [callFunc,hf,hn',hb]
 unfold Ret J at h
 have hc:=h H μ us w h3 hW
 unfold dG0 at hc
 rw [hrun] at hc
 refine Calls.mono hc ?_
 rintro e w' ⟨r,H',μ',rfl,⟨x,rfl,hx⟩,hN,_⟩
 exact ⟨⟨x,H',μ',rfl,hx⟩,⟨hN.os,hN.tape,hN.output,hN.size,fun b hb=>hN.keep b hb (by rintro ⟨i,o,blk,h,_⟩; simp [hpE] at h)⟩⟩
theorem rM0 (us:Array Value) (w:World):(callFunc 125 us).run prog w=.ok (.enter 125 us) w:=by
 obtain ⟨c,hc⟩:∃ c,Go.Proofs.Tryz.f125.body=some c:=⟨_,rfl⟩
 have hn:(Go.Proofs.Tryz.f125.name == "runtime.NumGoroutine")=false:=by kernel_rfl
 have hn':¬ Go.Proofs.Tryz.f125.name = "runtime.NumGoroutine":=by simpa using hn
 simp [callFunc,Go.Proofs.Tryz.func125,hn',hc]
theorem mm0 (s:ByteArray):Ret prog ke0 [vS s,.fn hV0 []] (vI (Lib.idxFunc plR true s)):=by
 obtain ⟨c,hc⟩:∃ c,Go.Proofs.Tryz.f124.body=some c:=⟨_,rfl⟩
 obtain ⟨c2,hc2⟩:∃ c,Go.Proofs.Tryz.f125.body=some c:=⟨_,rfl⟩
 refine ql0 Go.Proofs.Tryz.func124 (by kernel_rfl) hc ?_
 intro H μ us w hv hW
 have r0:=hv.2 0 _ rfl
 have r1:=hv.2 1 _ rfl
 rw [mj0 hv]
 generalize us.getD 0 undef=p at r0
 generalize us.getD 1 undef=q at r1
 cases r0
 cases r1 with
 | fn _ _ vs hnv hr =>
 obtain rfl:vs=#[]:=Array.eq_empty_of_size_eq_zero (by simpa using hnv)
 have hp:Go.Proofs.PredGrows prog 125 #[] plR w:=by
  intro W x hx hB
  have hWW:Wd H μ (hpE 0 []) W:=hW.below hB.block
  have hk:=J.belows Go.Proofs.Tryz.func125 (by kernel_rfl) hc2 (pg0 (x:Int) (by omega) (by omega)) (H:=H) (μ:=μ) (us:=#[.int .i32 (x:Int)]++#[]) (w:=W) ⟨rfl,fun j u hj=>by
   match j,hj with
   | 0,hj=>injection hj with hj; subst hj; exact .c _
   | j + 1,hj=>simp at hj⟩ hWW
  refine Calls.mono hk ?_
  rintro e w' ⟨⟨y,H',μ',rfl,hy⟩,hb⟩
  cases hy
  refine ⟨?_,hb⟩
  have e1:(decide ((x:Int) < 32) || decide (126 < (x:Int)))=plR x:=by
   unfold plR
   congr 1 <;> (rw [decide_eq_decide]; omega)
  rw [<- e1]
 have hj:=Go.Proofs.Any.strings_IndexFunc_grows Go.Proofs.Tryz.laysGw15 125 #[] rM0 plR s w hp
 have hfin:Calls prog 124 #[.string s,.func (.func 125) #[] #[]] w fun e w'=>e=.returned (.int .i64 (Lib.idxFunc plR true s))/\Go.RowKit.Below w.heap.size w w':=hj
 refine Calls.mono hfin ?_
 rintro e w' ⟨he,hB⟩
 exact ⟨⟨_,he,.c _⟩,hB⟩
theorem ra0 (s:ByteArray) {j:Nat} (hj:j < s.size):s.get! j=s.data.toList[j]'(by simpa using hj):=by
 show s.data[j]! = _
 rw [getElem!_pos s.data j hj]
 simp
theorem plain_iff (s:ByteArray):(decide (Lib.idxFunc plR true s < 0))=(sB s).all fun c=>decide (32<=c/\c<=126):=by
 rw [Bool.eq_iff_iff,decide_eq_true_eq,List.all_eq_true]
 unfold Lib.idxFunc
 rw [pA0 s s.size 0 (by omega)]
 constructor
 ·intro h c hc
  obtain ⟨j,hj,rfl⟩:=List.getElem_of_mem hc
  have hj':j < s.size:=by simpa using hj
  have:=h j (by omega) hj'
  rw [ra0 s hj'] at this
  rw [decide_eq_true_eq,UInt8.le_iff_toNat_le,UInt8.le_iff_toNat_le]
  exact this
 ·intro h j _ hj
  have:=h (s.data.toList[j]'(by simpa using hj)) (List.getElem_mem _)
  rw [decide_eq_true_eq,UInt8.le_iff_toNat_le,UInt8.le_iff_toNat_le] at this
  rw [ra0 s hj]
  exact this
theorem ny0 (s:ByteArray) (hs:s.size < 2 ^ 40):Ret prog mA0 [vS s] (vB (gt0 (sB s))):=by
 have hl:(sB s).length=s.size:=rfl
 refine cZ0 ps0 (by simp) ?_
 by_cases h:(s.size:Int)<=256
 ·have h':s.size<=256:=by omega
  have hp:gt0 (sB s)=decide (Lib.idxFunc plR true s < 0):=by rw [plain_iff]; unfold gt0; rw [hl]; simp [h']
  refine rS2 @ix0.eq_1 h ?_
  refine ao0 ?_; simp; refine aj0 (mm0 s) (by simp) ?_
  exact rT1 hp
 ·have h':¬ s.size<=256:=by omega
  have hp:gt0 (sB s)=false:=by unfold gt0; rw [hl]; simp [h']
  exact rT3 @ix0.eq_1 h hp
end Go.Am
end

section
namespace Go.Proofs
open Go.Shelf
def Tryz.qD0:Go.Shelf.Ren:=⟨fun | 138=>210 | 195=>211 | 218=>212 | 143=>213 | 219=>214 | 217=>79 | 225=>147 | 224=>146 | 267=>215 | 266=>110 | 314=>216 | n=>n,fun | 9=>9 | 3=>3 | 4=>4 | 5=>5 | 0=>0 | 46=>52 | 146=>263 | 51=>152 | n=>n,fun | 1=>1 | n=>n⟩
theorem Tryz.lays138:Go.Proofs.Lays.n138 Tryz.prog Tryz.qD0:={
 mixed:=by kernel_rfl
 f138:=Tryz.func210.trans (congrArg some (by kernel_rfl))
 f143:=Tryz.func213.trans (congrArg some (by kernel_rfl))
 f195:=Tryz.func211.trans (congrArg some (by kernel_rfl))
 f217:=Tryz.func79.trans (congrArg some (by kernel_rfl))
 f218:=Tryz.func212.trans (congrArg some (by kernel_rfl))
 f219:=Tryz.func214.trans (congrArg some (by kernel_rfl))
 f224:=Tryz.func146.trans (congrArg some (by kernel_rfl))
 f225:=Tryz.func147.trans (congrArg some (by kernel_rfl))
 f266:=Tryz.func110.trans (congrArg some (by kernel_rfl))
 f267:=Tryz.func215.trans (congrArg some (by kernel_rfl))
 f314:=Tryz.func216.trans (congrArg some (by kernel_rfl))
 t0:=Tryz.underlying0
 a0:=Tryz.isAgg0
 z0:=Tryz.sizeOf0
 v0:=Tryz.zeroValue0
 t3:=Tryz.underlying3
 a3:=Tryz.isAgg3
 z3:=Tryz.sizeOf3
 v3:=Tryz.zeroValue3
 t4:=Tryz.underlying4
 a4:=Tryz.isAgg4
 z4:=Tryz.sizeOf4
 v4:=Tryz.zeroValue4
 t5:=Tryz.underlying5
 a5:=Tryz.isAgg5
 z5:=Tryz.sizeOf5
 v5:=Tryz.zeroValue5
 t9:=Tryz.underlying9
 a9:=Tryz.isAgg9
 z9:=Tryz.sizeOf9
 v9:=Tryz.zeroValue9
 t46:=Tryz.underlying52
 a46:=Tryz.isAgg52
 z46:=Tryz.sizeOf52
 v46:=Tryz.zeroValue52
 t51:=Tryz.underlying152
 a51:=Tryz.isAgg152
 z51:=Tryz.sizeOf152
 v51:=Tryz.zeroValue152
 t146:=Tryz.underlying263
 a146:=Tryz.isAgg263
 z146:=Tryz.sizeOf263
 v146:=Tryz.zeroValue263
 g1:=by kernel_rfl }
end Go.Proofs
end

section
namespace Go.Am
set_option maxRecDepth 100000
theorem dc0:aZ0.alt=(.seq (.reg [⟨(some 4),none,(.mv (.const (.string ⟨⟨[]⟩⟩)))⟩]) (.seq (.reg [⟨(some 16),none,(.mv (.tmp 1))⟩,⟨(some 17),none,(.lenS (.tmp 16))⟩,⟨(some 5),none,(.mv (.tmp 17))⟩]) (.seq (.reg [⟨(some 6),none,(.mv (.const (.bool false)))⟩]) (.seq (.seq (.reg [⟨(some 18),none,(.mv (.tmp 0))⟩,⟨(some 19),none,(.nchk (.tmp 18))⟩,⟨(some 20),none,(.fa 256 (.tmp 19))⟩,⟨(some 21),none,(.ld (.tmp 20))⟩,⟨(some 22),none,(.len (.tmp 21))⟩,⟨(some 23),none,(.bin .mul (.tmp 22) (.const (.int .i64 8)))⟩,⟨(some 24),none,(.mv (.tmp 1))⟩,⟨(some 25),none,(.lenS (.tmp 24))⟩,⟨(some 26),none,(.bin .leq (.tmp 23) (.tmp 25))⟩]) (.cond (.tmp 26) (.seq (.reg [⟨(some 27),none,(.mv (.tmp 0))⟩,⟨(some 28),none,(.nchk (.tmp 27))⟩,⟨(some 29),none,(.fa 256 (.tmp 28))⟩,⟨(some 30),none,(.ld (.tmp 29))⟩,⟨(some 31),none,(.len (.tmp 30))⟩,⟨(some 32),none,(.mv (.const (.int .i64 0)))⟩]) (.blk 0 (.loop (.seq (.reg [⟨(some 33),none,(.bin .lss (.tmp 32) (.tmp 31))⟩]) (.seq (.cond (.tmp 33) .skip (.exit 0)) (.seq (.blk 1 (.seq (.reg [⟨(some 34),none,(.ia 1 (.tmp 30) (.tmp 32))⟩,⟨(some 35),none,(.ld (.tmp 34))⟩,⟨(some 8),none,(.mv (.tmp 35))⟩]) (.seq (.reg [⟨(some 36),none,(.mv (.tmp 1))⟩,⟨(some 37),none,(.mv (.tmp 8))⟩,⟨(some 38),none,(.call (.func 210) [(.tmp 36),(.tmp 37)])⟩,⟨(some 9),none,(.mv (.tmp 38))⟩]) (.seq (.reg [⟨(some 39),none,(.mv (.tmp 9))⟩,⟨(some 40),none,(.bin .neq (.tmp 39) (.const (.int .i64 0)))⟩]) (.cond (.tmp 40) (.seq (.areg (AT.take ⟨(some 41),none,(.mv (.tmp 5))⟩ (AT.take ⟨(some 42),none,(.mv (.tmp 9))⟩ (AT.take ⟨(some 43),none,(.mv (.tmp 0))⟩ (AT.take ⟨(some 44),none,(.mv (.tmp 8))⟩ (AT.take ⟨(some 46),none,(.nchk (.tmp 43))⟩ (AT.take ⟨(some 47),none,(.fa 0 (.tmp 46))⟩ (AT.alt ⟨(some 45),none,(.ixS (.tmp 44) (.const (.int .i64 0)))⟩ (AT.alt ⟨(some 48),none,(.iaA 256 1 (.tmp 47) (.tmp 45))⟩ (AT.alt ⟨(some 49),none,(.ld (.tmp 48))⟩ (AT.alt ⟨(some 50),none,(.len (.tmp 49))⟩ (AT.alt ⟨(some 51),none,(.bin .sub (.tmp 50) (.const (.int .i64 1)))⟩ (AT.alt ⟨(some 52),none,(.bin .mul (.tmp 42) (.tmp 51))⟩ AT.done AT.nil) AT.nil) AT.nil) AT.nil) AT.nil) AT.nil))))))) [⟨(some 53),none,(.bin .add (.tmp 41) (.tmp 52))⟩,⟨(some 5),none,(.mv (.tmp 53))⟩] [(some 41),(some 42),(some 43),(some 44),(some 45),(some 46),(some 47),(some 48),(some 49),(some 50),(some 51),(some 52),(some 53),(some 5)]) (.reg [⟨(some 6),none,(.mv (.const (.bool true)))⟩])) .skip))))) (.reg [⟨(some 54),none,(.bin .add (.tmp 32) (.const (.int .i64 1)))⟩,⟨(some 32),none,(.mv (.tmp 54))⟩]))))))) (.seq (.reg [⟨(some 10),none,(.mv (.const (.int .i64 0)))⟩]) (.blk 2 (.loop (.seq (.seq (.reg [⟨(some 55),none,(.mv (.tmp 10))⟩,⟨(some 56),none,(.mv (.tmp 1))⟩,⟨(some 57),none,(.lenS (.tmp 56))⟩,⟨(some 58),none,(.bin .lss (.tmp 55) (.tmp 57))⟩]) (.cond (.tmp 58) .skip (.exit 2))) (.seq (.blk 3 (.seq (.reg [⟨(some 61),none,(.mv (.tmp 1))⟩,⟨(some 62),none,(.mv (.tmp 10))⟩,⟨(some 63),none,(.ixS (.tmp 61) (.tmp 62))⟩,⟨(some 11),none,(.mv (.tmp 63))⟩]) (.seq (.reg [⟨(some 64),none,(.mv (.tmp 0))⟩,⟨(some 65),none,(.mv (.tmp 11))⟩,⟨(some 66),none,(.nchk (.tmp 64))⟩,⟨(some 67),none,(.fa 0 (.tmp 66))⟩,⟨(some 68),none,(.iaA 256 1 (.tmp 67) (.tmp 65))⟩,⟨(some 69),none,(.ld (.tmp 68))⟩,⟨(some 70),none,(.isnl true (.tmp 69))⟩]) (.cond (.tmp 70) (.seq (.reg [⟨(some 71),none,(.mv (.tmp 5))⟩,⟨(some 72),none,(.mv (.tmp 0))⟩,⟨(some 73),none,(.mv (.tmp 11))⟩,⟨(some 74),none,(.nchk (.tmp 72))⟩,⟨(some 75),none,(.fa 0 (.tmp 74))⟩,⟨(some 76),none,(.iaA 256 1 (.tmp 75) (.tmp 73))⟩,⟨(some 77),none,(.ld (.tmp 76))⟩,⟨(some 78),none,(.len (.tmp 77))⟩,⟨(some 79),none,(.bin .sub (.tmp 78) (.const (.int .i64 1)))⟩,⟨(some 80),none,(.bin .add (.tmp 71) (.tmp 79))⟩,⟨(some 5),none,(.mv (.tmp 80))⟩]) (.reg [⟨(some 6),none,(.mv (.const (.bool true)))⟩])) .skip)))) (.reg [⟨(some 59),none,(.mv (.tmp 10))⟩,⟨(some 60),none,(.bin .add (.tmp 59) (.const (.int .i64 1)))⟩,⟨(some 10),none,(.mv (.tmp 60))⟩])))))))) (.seq (.seq (.reg [⟨(some 81),none,(.mv (.tmp 6))⟩,⟨(some 82),none,(.un .not (.tmp 81))⟩]) (.cond (.tmp 82) (.seq (.reg [⟨(some 83),none,(.mv (.tmp 1))⟩,⟨(some 4),none,(.mv (.tmp 83))⟩]) .ret) .skip)) (.seq (.reg [⟨(some 84),none,(.mv (.tmp 5))⟩,⟨(some 85),none,(.mks 5 1 1 [(.c (.int .u8 0))] (.tmp 84) (.tmp 84))⟩,⟨(some 12),none,(.mv (.tmp 85))⟩]) (.seq (.reg [⟨(some 13),none,(.mv (.const (.int .i64 0)))⟩]) (.seq (.seq (.reg [⟨(some 14),none,(.mv (.const (.int .i64 0)))⟩]) (.blk 4 (.loop (.seq (.seq (.reg [⟨(some 86),none,(.mv (.tmp 14))⟩,⟨(some 87),none,(.mv (.tmp 1))⟩,⟨(some 88),none,(.lenS (.tmp 87))⟩,⟨(some 89),none,(.bin .lss (.tmp 86) (.tmp 88))⟩]) (.cond (.tmp 89) .skip (.exit 4))) (.seq (.blk 5 (.seq (.reg [⟨(some 92),none,(.mv (.tmp 1))⟩,⟨(some 93),none,(.mv (.tmp 14))⟩,⟨(some 94),none,(.ixS (.tmp 92) (.tmp 93))⟩,⟨(some 15),none,(.mv (.tmp 94))⟩]) (.seq (.reg [⟨(some 95),none,(.mv (.tmp 0))⟩,⟨(some 96),none,(.mv (.tmp 15))⟩,⟨(some 97),none,(.nchk (.tmp 95))⟩,⟨(some 98),none,(.fa 0 (.tmp 97))⟩,⟨(some 99),none,(.iaA 256 1 (.tmp 98) (.tmp 96))⟩,⟨(some 100),none,(.ld (.tmp 99))⟩,⟨(some 101),none,(.isnl true (.tmp 100))⟩]) (.cond (.tmp 101) (.areg (AT.take ⟨(some 102),none,(.mv (.tmp 13))⟩ (AT.take ⟨(some 103),none,(.mv (.tmp 12))⟩ (AT.take ⟨(some 104),none,(.mv (.tmp 13))⟩ (AT.take ⟨(some 106),none,(.mv (.tmp 0))⟩ (AT.take ⟨(some 107),none,(.mv (.tmp 15))⟩ (AT.take ⟨(some 108),none,(.nchk (.tmp 106))⟩ (AT.take ⟨(some 109),none,(.fa 0 (.tmp 108))⟩ (AT.alt ⟨(some 105),none,(.slL 1 (.tmp 103) (some (.tmp 104)) none)⟩ (AT.alt ⟨(some 110),none,(.iaA 256 1 (.tmp 109) (.tmp 107))⟩ (AT.alt ⟨(some 111),none,(.ld (.tmp 110))⟩ (AT.alt ⟨(some 112),none,(.cpy 1 (.tmp 105) (.tmp 111))⟩ AT.done AT.nil) AT.nil) AT.nil) (AT.alt ⟨(some 110),none,(.iaA 256 1 (.tmp 109) (.tmp 107))⟩ (AT.alt ⟨(some 105),none,(.slL 1 (.tmp 103) (some (.tmp 104)) none)⟩ (AT.alt ⟨(some 111),none,(.ld (.tmp 110))⟩ (AT.alt ⟨(some 112),none,(.cpy 1 (.tmp 105) (.tmp 111))⟩ AT.done AT.nil) AT.nil) (AT.alt ⟨(some 111),none,(.ld (.tmp 110))⟩ (AT.alt ⟨(some 105),none,(.slL 1 (.tmp 103) (some (.tmp 104)) none)⟩ (AT.alt ⟨(some 112),none,(.cpy 1 (.tmp 105) (.tmp 111))⟩ AT.done AT.nil) AT.nil) AT.nil)) AT.nil))))))))) [⟨(some 113),none,(.bin .add (.tmp 102) (.tmp 112))⟩,⟨(some 13),none,(.mv (.tmp 113))⟩] [(some 102),(some 103),(some 104),(some 105),(some 106),(some 107),(some 108),(some 109),(some 110),(some 111),(some 112),(some 113),(some 13)]) (.seq (.reg [⟨(some 114),none,(.mv (.tmp 12))⟩,⟨(some 115),none,(.mv (.tmp 13))⟩,⟨(some 116),none,(.mv (.tmp 15))⟩,⟨(some 117),none,(.ia 1 (.tmp 114) (.tmp 115))⟩,⟨none,none,(.st 1 (.tmp 117) (.tmp 116))⟩]) (.reg [⟨(some 118),none,(.mv (.tmp 13))⟩,⟨(some 119),none,(.bin .add (.tmp 118) (.const (.int .i64 1)))⟩,⟨(some 13),none,(.mv (.tmp 119))⟩])))))) (.reg [⟨(some 90),none,(.mv (.tmp 14))⟩,⟨(some 91),none,(.bin .add (.tmp 90) (.const (.int .i64 1)))⟩,⟨(some 14),none,(.mv (.tmp 91))⟩])))))) (.seq (.reg [⟨(some 120),none,(.mv (.tmp 12))⟩,⟨(some 121),none,(.cvBS (.tmp 120))⟩,⟨(some 4),none,(.mv (.tmp 121))⟩]) .ret))))))))):=by rw [aZ0]; rfl
end Go.Am
end

section
namespace Go.Am
variable {hp:Hp}
def V.ow0:V->Bool
 | .c v=>v.oneCell'
 | .lst _=>true
 | .rp _=>true
 | .nil=>true
 | _=>false
def j10 (cs:List V):Bool:=cs.all V.ow0
theorem eD0 {v:V} {cs:List V}:j10 (v :: cs)=(v.ow0 && j10 cs):=_root_.id rfl
section
variable {cs:List V} (h:j10 cs=true)
include h
theorem kH0 (i:Id):V.hasL i cs=false:=by
 induction cs with
 | nil=>simp
 | cons v cs ih =>
  rw [eD0,Bool.and_eq_true] at h
  simp [ih h.2]
  have hv:=h.1
  cases v <;> first | (simp [V.ow0] at hv; done) | simp
theorem flatN_see (ks:List Id) (K:List V->Prop):V.seeL true ks hp cs K=K cs:=by
 induction cs generalizing K with
 | nil=>simp
 | cons v cs ih =>
  rw [eD0,Bool.and_eq_true] at h
  rw [p80]
  simp only [hold,ih h.2]
  have hv:=h.1
  cases v <;> first | (simp [V.ow0] at hv; done) | simp
theorem flatN_map (f:Id->Option Id) (K:List V->Prop):c70 f cs K=K cs:=by
 induction cs generalizing K with
 | nil=>simp
 | cons v cs ih =>
  rw [eD0,Bool.and_eq_true] at h
  rw [lo0]
  simp only [hold,ih h.2]
  have hv:=h.1
  cases v <;> first | (simp [V.ow0] at hv; done) | simp
theorem r20 (ks:List Id):V.bq0 ks cs=cs:=by
 induction cs with
 | nil=>simp
 | cons v cs ih =>
  rw [eD0,Bool.and_eq_true] at h
  simp [ih h.2]
  have hv:=h.1
  cases v <;> first | (simp [V.ow0] at hv; done) | simp
end
end Go.Am
end

section
namespace Go.Am
set_option maxRecDepth 100000
theorem nJ0 (s:ByteArray) (c:UInt8):Ret prog mF0 [vS s,vS (bS [c])] (vI ((sB s).count c)):=by
 obtain ⟨cc,hc⟩:∃ c,Go.Proofs.Tryz.f210.body=some c:=⟨_,rfl⟩
 refine ql0 Go.Proofs.Tryz.func210 (by kernel_rfl) hc ?_
 intro H μ us w hv hW
 have r0:=hv.2 0 _ rfl
 have r1:=hv.2 1 _ rfl
 rw [mj0 hv]
 generalize us.getD 0 undef=p at r0
 generalize us.getD 1 undef=q at r1
 cases r0
 cases r1
 have hj:=Go.Proofs.Any.strings_Count_one Go.Proofs.Tryz.lays138 s c w
 have hfin:Calls prog 210 #[.string s,.string (bS [c])] w fun e w'=>e=.returned (.int .i64 ((sB s).count c:Nat))/\w'=w:=hj
 refine Calls.mono hfin ?_
 rintro e w' ⟨he,rfl⟩
 exact ⟨⟨_,he,.c _⟩,Go.RowKit.Below.refl _ _⟩
attribute [local irreducible] vc vcIs vcI vcOp vcD vcDp vcDR vcT vcAR bY0 aX0 panD neG ne pv J bJ0 bP0 b20 bc0 evK evsK nthK objK boxK rowK bC0 intK strK aggK fnK ifcK ay0 az0 ldK ldaK iaK srcK stK appK appD b40 pvK bD0 aV0 bO0 bs0 slAV bI0
def jR0 (c:UInt8):Option Bs:=if c=92 then some [92,92] else if c=34 then some [92,34] else none
def repV (c:UInt8):V:=match jR0 c with
 | some t=>.lst (t.map an0)
 | none=>.nil
def repC:List V:=(List.range 256).map fun i=>repV (UInt8.ofNat i)
def repB (s:Bs):Bs:=s.flatMap fun c=>(jR0 c).getD [c]
def p30:List Ob:=[.box (repC++[.lst [aP0 [34],aP0 [92]]])]
theorem oW0:repC.length=256:=by simp [repC]
theorem repC_get (c:UInt8):(repC++[.lst [aP0 [34],aP0 [92]]])[c.toNat]?=some (repV c):=by
 have h:=c.toNat_lt
 rw [List.getElem?_append_left (by rw [oW0]; exact h)]
 simp [repC,List.getElem?_range h]
theorem mV0 {vs:List V} {n:Nat} {v:V} {K:V->Prop} (h:vs[n]?=some v):nthK vs n K=K v:=by
 rw [iO0]
 exact propext ⟨fun ⟨u,h1,h2⟩=>by rw [h] at h1; injection h1 with h1; subst h1; exact h2,fun hk=>⟨v,h,hk⟩⟩
theorem gq0 (c:UInt8) {K:V->Prop}:nthK (repC++[.lst [aP0 [34],aP0 [92]]]) c.toNat K=K (repV c):=mV0 (repC_get c)
theorem mW0 {K:V->Prop}:nthK (repC++[.lst [aP0 [34],aP0 [92]]]) 34 K=K (.lst [[vU 92],[vU 34]]):=gq0 34
theorem mX0 {K:V->Prop}:nthK (repC++[.lst [aP0 [34],aP0 [92]]]) 92 K=K (.lst [[vU 92],[vU 92]]):=gq0 92
theorem oK0 {K:V->Prop}:nthK (repC++[.lst [aP0 [34],aP0 [92]]]) 256 K=K (.lst [aP0 [34],aP0 [92]]):=mV0 (by
 rw [List.getElem?_append_right (by rw [oW0]; omega),oW0]; rfl)
theorem js0 (l:List (List V)):j10 (repC++[.lst l])=true:=by
 unfold j10
 rw [List.all_eq_true]
 intro v hv
 rcases List.mem_append.1 hv with hv | hv
 ·simp only [repC,List.mem_map] at hv
  obtain ⟨i,_,rfl⟩:=hv
  unfold repV
  split <;> rfl
 ·obtain rfl:=List.mem_singleton.1 hv
  rfl
section
variable {l:List (List V)} {Ks:List V->Prop} {hp:Hp}
@[simp] theorem rep_has0 {i:Id}:V.hasL i (repC++[.lst l])=false:=kH0 (js0 l) i
@[simp] theorem rep_see0 {ks:List Id}:V.seeL true ks hp (repC++[.lst l]) Ks=Ks (repC++[.lst l]):=flatN_see (js0 l) ks Ks
@[simp] theorem rep_map0 {f:Id->Option Id}:c70 f (repC++[.lst l]) Ks=Ks (repC++[.lst l]):=flatN_map (js0 l) f Ks
@[simp] theorem rep_hide0 {ks:List Id}:V.bq0 ks (repC++[.lst l])=repC++[.lst l]:=r20 (js0 l) ks
end
def cntN (s:Bs) (i:Nat):Nat:=(if 1<=i then s.count 34 else 0) + (if 2<=i then s.count 92 else 0)
theorem cntN0 (s:Bs):cntN s 0=0:=rfl
theorem cntN1 (s:Bs):cntN s 1=s.count 34:=rfl
theorem pn0 (s:Bs):cntN s 2=s.count 34 + s.count 92:=rfl
theorem mh0:repB []=[]:=rfl
theorem p20 (s:Bs) (c:UInt8):repB (s++[c])=repB s++(jR0 c).getD [c]:=by simp [repB]
theorem pZ0 (s:Bs) (c:UInt8):repB (c :: s)=(jR0 c).getD [c]++repB s:=by simp [repB]
theorem oV0 (s:Bs):(repB s).length=s.length + cntN s 2:=by
 rw [pn0]
 induction s with
 | nil=>rfl
 | cons c s ih =>
  rw [pZ0,List.length_append,ih,List.count_cons,List.count_cons]
  unfold jR0
  by_cases h1:c=92
  ·subst h1; simp; omega
  ·by_cases h2:c=34
   ·subst h2; simp; omega
   ·simp [h1,h2]; omega
theorem p10 {s:Bs} (h:cntN s 2=0):repB s=s:=by
 rw [pn0] at h
 induction s with
 | nil=>rfl
 | cons c s ih =>
  rw [List.count_cons,List.count_cons] at h
  have h1:c ≠ 34:=by rintro rfl; simp at h
  have h2:c ≠ 92:=by rintro rfl; simp at h
  rw [pZ0,ih (by omega)]
  simp [jR0,h1,h2]
theorem p00 (s:Bs) (i:Nat):(repB (s.take i)).length<=(repB s).length:=by
 have:repB s=repB (s.take i)++repB (s.drop i):=by
  unfold repB; rw [<- List.flatMap_append,List.take_append_drop]
 rw [this,List.length_append]; omega
theorem row2 {α:Type} {A:List α} {L N:Nat} {z:α} (hA:A.length=L):List.drop (L + 2) (A++List.replicate (N - L) z)=List.replicate (N - (L + 2)) z:=by
 subst hA
 rw [<- List.drop_drop,List.drop_left' rfl,List.drop_replicate,Nat.sub_sub]
theorem row1 {α:Type} {L N:Nat} {a z:α} (hL:L + 1<=N):(List.replicate (N - L) z).set 0 a=a :: List.replicate (N - (L + 1)) z:=by
 obtain ⟨k,hk⟩:∃ k,N - L=k + 1:=⟨N - L - 1,by omega⟩
 rw [hk,List.replicate_succ,List.set_cons_zero,show N - (L + 1)=k by omega]
set_option maxHeartbeats 1600000 in
theorem pk0 (s:Bs) (hs:s.length < 2 ^ 39):J prog bM0 [.bp (.e 0) 0,vS (bS s)] p30 (·=.ret (vS (bS (repB s))) p30):=by
 have hsz:(bS s).size=s.length:=rfl
 have h34:s.count 34<=s.length:=List.count_le_length
 have h92:s.count 92<=s.length:=List.count_le_length
 refine at0 dq0.alt (by simp [p30]) ?_
 refine rS8 @dc0 @p30.eq_1 @hpE.eq_1 @hpE.eq_2 @oK0 @mW0 @mX0 hsz ?_
 by_cases hlong:(16:Int)<=s.length
 ·refine rS3 hlong @oK0 hsz ?_
  refine bm0 2 (fun i=>[(32,vI i),(31,vI 2),(30,.lst [aP0 [34],aP0 [92]]),(5,vI (s.length + cntN s i)),(6,vB (decide (cntN s i ≠ 0))),(0,.bp (.e 0) 0),(1,vS (bS s))])
   (fun i=>[(.e 0,.box (repC++[.lst [aP0 [34],aP0 [92]]]))]) (Wk.subs (by simp [cntN]) (by simp)) ?_
  intro i hi
  have hi3:i=0\/i=1\/i=2:=by omega
  rcases hi3 with rfl | rfl | rfl
  ·refine rS1 hsz ?_
   refine ao0 ?_; simp; refine aj0 (nJ0 (bS s) 34) (by simp) ?_
   by_cases h0:s.count 34=0
   ·refine rS2 h0 @mW0 ?_
    refine .of (by omega) (Wk.subs (by simp [cntN,h0]) (by simp))
   ·refine rS3 h0 @mW0 @cntN0 ?_
    refine .of (by omega) (Wk.subs (by simp [cntN,h0]) (by simp))
  ·refine rS1 hsz ?_
   refine ao0 ?_; simp; refine aj0 (nJ0 (bS s) 92) (by simp) ?_
   by_cases h0:s.count 92=0
   ·refine rS2 h0 @mX0 ?_
    refine .of (by omega) (Wk.subs (by simp [cntN,h0]) (by simp))
   ·refine rS3 h0 @mX0 @cntN1 ?_
    refine .of (by omega) (Wk.subs (by simp [cntN,h0]; omega) (by simp))
  ·have hlen:=oV0 s
   have hcn:cntN s 2<=2 * s.length:=by rw [pn0]; omega
   by_cases hz:cntN s 2=0
   ·have he:=p10 hz
    refine rS3 hsz hz he ?_
    refine ax0 [] ?_
    exact rT1 he
   ·refine rS2 hsz hz ?_
    have hN:(s.length:Int) + (cntN s 2:Nat)=((repB s).length:Nat):=by omega
    refine bm0 s.length (fun i=>[(14,vI i),(13,vI (repB (s.take i)).length),(12,.arr (.l 85 0) 0 (repB s).length),(0,.bp (.e 0) 0),(1,vS (bS s))])
     (fun i=>[(.l 85 0,.row 5 1 true ((repB (s.take i)++List.replicate ((repB s).length - (repB (s.take i)).length) 0).map an0)),(.e 0,.box (repC++[.lst [aP0 [34],aP0 [92]]]))])
     (Wk.subs (by simp [mh0,hlen]; omega) (by simp [mh0,an0,hlen]; omega)) ?_
    intro i hi
    by_cases hlt:i < s.length
    ·have hlt':(i:Int) < s.length:=by omega
     have h256:(s[i].toNat:Int) < 256:=by have:=s[i].toNat_lt; omega
     have htk:s.take (i + 1)=s.take i++[s[i]]:=by rw [List.take_add_one,List.getElem?_eq_getElem hlt]; rfl
     have hsn:=p20 (s.take i) s[i]
     rw [<- htk] at hsn
     have hmo:=p00 s (i + 1)
     rw [hsn,List.length_append] at hmo
     by_cases h1:s[i]=92
     ·have hr:jR0 s[i]=some [92,92]:=by rw [h1]; rfl
      have hv:repV s[i]=.lst [[vU 92],[vU 92]]:=by rw [h1]; rfl
      rw [hr] at hsn hmo
      simp only [Option.getD_some,List.length_cons,List.length_nil] at hsn hmo
      have hcl:(List.map an0 (repB (List.take i s))).length=(repB (List.take i s)).length:=List.length_map ..
      have hfin:=row2 (N:=(repB s).length) (z:=an0 0) hcl
      refine rS5 hlt' hsz @gq0 h256 hv ?_
      rw [hfin]
      refine ⟨?_,?_,?_⟩ <;> exact .of hlt (Wk.subs (by simp [hsn]) (by simp [hsn,an0]))
     by_cases h2:s[i]=34
     ·have hr:jR0 s[i]=some [92,34]:=by rw [h2]; rfl
      have hv:repV s[i]=.lst [[vU 92],[vU 34]]:=by rw [h2]; rfl
      rw [hr] at hsn hmo
      simp only [Option.getD_some,List.length_cons,List.length_nil] at hsn hmo
      have hcl:(List.map an0 (repB (List.take i s))).length=(repB (List.take i s)).length:=List.length_map ..
      have hfin:=row2 (N:=(repB s).length) (z:=an0 0) hcl
      refine rS5 hlt' hsz @gq0 h256 hv ?_
      rw [hfin]
      refine ⟨?_,?_,?_⟩ <;> exact .of hlt (Wk.subs (by simp [hsn]) (by simp [hsn,an0]))
     ·have hr:jR0 s[i]=none:=by unfold jR0; rw [if_neg h1,if_neg h2]
      have hv:repV s[i]=.nil:=by unfold repV; rw [hr]
      rw [hr] at hsn hmo
      simp only [Option.getD_none,List.length_cons,List.length_nil] at hsn hmo
      have hcl:(List.map an0 (repB (List.take i s))).length=(repB (List.take i s)).length:=List.length_map ..
      have hfin:=row1 (a:=an0 s[i]) (z:=an0 0) (by omega:(repB (List.take i s)).length + 1<=(repB s).length)
      have hget:(List.map an0 (repB (List.take i s))++List.replicate ((repB s).length - (repB (List.take i s)).length) (an0 0))[(repB (List.take i s)).length]?=some (an0 0):=by
       rw [List.getElem?_append_right (by omega),hcl,Nat.sub_self,List.getElem?_replicate]
       rw [if_pos (by omega)]
      refine rS5 hlt' hsz @gq0 h256 hv ?_
      rw [aO0 hget]
      have hfin':=hfin
      unfold an0 at hfin'
      refine rS2 @an0.eq_1 hfin' ?_
      exact .of hlt (Wk.subs (by simp [hsn]) (by simp [hsn,an0]))
    ·have hge':¬ (i:Int) < s.length:=by omega
     have:i=s.length:=by omega
     subst this
     refine rS2 hge' hsz ?_
     refine ⟨bS (repB s),(lb0 _).symm,?_⟩
     refine ax0 [] ?_
     exact rT0
 ·refine rS3 hlong @oK0 hsz ?_
  have hlen:=oV0 s
  have hcn:cntN s 2<=2 * s.length:=by rw [pn0]; omega
  have hcs:∀ (l:Bs) (c:UInt8),cntN (l++[c]) 2=cntN l 2 + if c=34\/c=92 then 1 else 0:=by
   intro l c
   rw [pn0,pn0,List.count_append,List.count_append,List.count_singleton,List.count_singleton]
   by_cases h1:c=34
   ·subst h1; simp; omega
   ·by_cases h2:c=92
    ·subst h2; simp; omega
    ·simp [h1,h2]
  have hct:∀ i,cntN (s.take i) 2<=2 * s.length:=by
   intro i
   have a:(s.take i).count 34<=(s.take i).length:=List.count_le_length
   have b:(s.take i).count 92<=(s.take i).length:=List.count_le_length
   rw [List.length_take] at a b
   rw [pn0]; omega
  refine bm0 s.length (fun i=>[(10,vI i),(5,vI (s.length + cntN (s.take i) 2)),(6,vB (decide (cntN (s.take i) 2 ≠ 0))),(0,.bp (.e 0) 0),(1,vS (bS s))])
   (fun i=>[(.e 0,.box (repC++[.lst [aP0 [34],aP0 [92]]]))]) (Wk.subs (by simp [cntN]) (by simp)) ?_
  intro i hi
  by_cases hlt:i < s.length
  ·have hlt':(i:Int) < s.length:=by omega
   have h256:(s[i].toNat:Int) < 256:=by have:=s[i].toNat_lt; omega
   have htk:s.take (i + 1)=s.take i++[s[i]]:=by rw [List.take_add_one,List.getElem?_eq_getElem hlt]; rfl
   have hci:=hct i
   have hsn:=hcs (s.take i) s[i]
   rw [<- htk] at hsn
   by_cases h1:s[i]=92
   ·have hv:repV s[i]=.lst [[vU 92],[vU 92]]:=by rw [h1]; rfl
    rw [if_pos (.inr h1)] at hsn
    refine rS5 hlt' hsz @gq0 h256 hv ?_
    exact .of hlt (Wk.subs (by simp [hsn]; omega) (by simp))
   by_cases h2:s[i]=34
   ·have hv:repV s[i]=.lst [[vU 92],[vU 34]]:=by rw [h2]; rfl
    rw [if_pos (.inl h2)] at hsn
    refine rS5 hlt' hsz @gq0 h256 hv ?_
    exact .of hlt (Wk.subs (by simp [hsn]; omega) (by simp))
   ·have hv:repV s[i]=.nil:=by unfold repV jR0; rw [if_neg h1,if_neg h2]
    rw [if_neg (by rintro (h | h); exact h2 h; exact h1 h)] at hsn
    refine rS5 hlt' hsz @gq0 h256 hv ?_
    exact .of hlt (Wk.subs (by simp [hsn]) (by simp))
  ·have hge':¬ (i:Int) < s.length:=by omega
   have:i=s.length:=by omega
   subst this
   have hta:cntN (List.take s.length s) 2=cntN s 2:=by rw [List.take_length]
   refine rS3 hge' hsz hta ?_
   by_cases hz:cntN s 2=0
   ·have he:=p10 hz
    refine rS4 hsz hz he hta ?_
    refine ax0 [] ?_
    exact rT1 he
   ·refine rS3 hsz hz hta ?_
    have hN:(s.length:Int) + (cntN s 2:Nat)=((repB s).length:Nat):=by omega
    refine bm0 s.length (fun i=>[(14,vI i),(13,vI (repB (s.take i)).length),(12,.arr (.l 85 0) 0 (repB s).length),(0,.bp (.e 0) 0),(1,vS (bS s))])
     (fun i=>[(.l 85 0,.row 5 1 true ((repB (s.take i)++List.replicate ((repB s).length - (repB (s.take i)).length) 0).map an0)),(.e 0,.box (repC++[.lst [aP0 [34],aP0 [92]]]))])
     (Wk.subs (by simp [mh0,hlen]; omega) (by simp [mh0,an0,hlen]; omega)) ?_
    intro i hi
    by_cases hlt:i < s.length
    ·have hlt':(i:Int) < s.length:=by omega
     have h256:(s[i].toNat:Int) < 256:=by have:=s[i].toNat_lt; omega
     have htk:s.take (i + 1)=s.take i++[s[i]]:=by rw [List.take_add_one,List.getElem?_eq_getElem hlt]; rfl
     have hsn:=p20 (s.take i) s[i]
     rw [<- htk] at hsn
     have hmo:=p00 s (i + 1)
     rw [hsn,List.length_append] at hmo
     by_cases h1:s[i]=92
     ·have hr:jR0 s[i]=some [92,92]:=by rw [h1]; rfl
      have hv:repV s[i]=.lst [[vU 92],[vU 92]]:=by rw [h1]; rfl
      rw [hr] at hsn hmo
      simp only [Option.getD_some,List.length_cons,List.length_nil] at hsn hmo
      have hcl:(List.map an0 (repB (List.take i s))).length=(repB (List.take i s)).length:=List.length_map ..
      have hfin:=row2 (N:=(repB s).length) (z:=an0 0) hcl
      refine rS5 hlt' hsz @gq0 h256 hv ?_
      rw [hfin]
      refine ⟨?_,?_,?_⟩ <;> exact .of hlt (Wk.subs (by simp [hsn]) (by simp [hsn,an0]))
     by_cases h2:s[i]=34
     ·have hr:jR0 s[i]=some [92,34]:=by rw [h2]; rfl
      have hv:repV s[i]=.lst [[vU 92],[vU 34]]:=by rw [h2]; rfl
      rw [hr] at hsn hmo
      simp only [Option.getD_some,List.length_cons,List.length_nil] at hsn hmo
      have hcl:(List.map an0 (repB (List.take i s))).length=(repB (List.take i s)).length:=List.length_map ..
      have hfin:=row2 (N:=(repB s).length) (z:=an0 0) hcl
      refine rS5 hlt' hsz @gq0 h256 hv ?_
      rw [hfin]
      refine ⟨?_,?_,?_⟩ <;> exact .of hlt (Wk.subs (by simp [hsn]) (by simp [hsn,an0]))
     ·have hr:jR0 s[i]=none:=by unfold jR0; rw [if_neg h1,if_neg h2]
      have hv:repV s[i]=.nil:=by unfold repV; rw [hr]
      rw [hr] at hsn hmo
      simp only [Option.getD_none,List.length_cons,List.length_nil] at hsn hmo
      have hcl:(List.map an0 (repB (List.take i s))).length=(repB (List.take i s)).length:=List.length_map ..
      have hfin:=row1 (a:=an0 s[i]) (z:=an0 0) (by omega:(repB (List.take i s)).length + 1<=(repB s).length)
      have hget:(List.map an0 (repB (List.take i s))++List.replicate ((repB s).length - (repB (List.take i s)).length) (an0 0))[(repB (List.take i s)).length]?=some (an0 0):=by
       rw [List.getElem?_append_right (by omega),hcl,Nat.sub_self,List.getElem?_replicate]
       rw [if_pos (by omega)]
      refine rS5 hlt' hsz @gq0 h256 hv ?_
      rw [aO0 hget]
      have hfin':=hfin
      unfold an0 at hfin'
      refine rS2 @an0.eq_1 hfin' ?_
      exact .of hlt (Wk.subs (by simp [hsn]) (by simp [hsn,an0]))
    ·have hge':¬ (i:Int) < s.length:=by omega
     have:i=s.length:=by omega
     subst this
     refine rS2 hge' hsz ?_
     refine ⟨bS (repB s),(lb0 _).symm,?_⟩
     refine ax0 [] ?_
     exact rT0
end Go.Am
end

section
namespace Go.Am
set_option maxRecDepth 100000
attribute [local irreducible] vc vcIs vcI vcOp vcD vcDp vcDR vcT vcAR bY0 aX0 panD neG ne pv J bJ0 bP0 b20 bc0 evK evsK nthK objK boxK rowK bC0 intK strK aggK fnK ifcK ay0 az0 ldK ldaK iaK srcK stK appK appD b40 pvK bD0 aV0 bO0 bs0 slAV bI0
def repS (k:Nat):List V:=(List.range 256).map fun i=>if (1<=k/\i=34)\/(2<=k/\i=92) then repV (UInt8.ofNat i) else .nil
theorem repS_two:repS 2=repC:=by rfl
abbrev old4:List (List V):=[aP0 [92],aP0 [92,92],aP0 [34],aP0 [92,34]]
def aT0 (st:Int) (r:V) (l:V):Ob:=.box [.c (.int .u32 0),.c (.int .i32 st),.c (.int .u32 0),r,l]
def p40 (k:Nat):List (List V):=[aP0 [34],aP0 [92]].take k
def repH (st:Int) (k:Nat):Hp:=if k=2 then [(.l 11 0,.box (repC++[.lst [aP0 [34],aP0 [92]]])),(.e 0,aT0 st (.c .nilIface) (.lst old4))]
 else [(.l 11 0,.box (repS k++[.arr (.l 999 0) 0 k])),(.l 999 0,.row 9 1 true (p40 k)),(.e 0,aT0 st (.c .nilIface) (.lst old4))]
theorem qS0 (x:V) {K:V->Prop}:nthK (repS 0++[x]) 34 K=K .nil:=mV0 (by rfl)
theorem qT0 (x:V) {K:V->Prop}:nthK (repS 1++[x]) 92 K=K .nil:=mV0 (by rfl)
theorem oX0 (k:Nat) (x:V) {K:V->Prop}:nthK (repS k++[x]) 256 K=K x:=mV0 (by
 rw [List.getElem?_append_right (by simp [repS])]; simp [repS])
theorem qB0 {i:Id} {l:List V} {x:V}:V.hasL i (l++[x])=(V.hasL i l || V.has i x):=by
 induction l with
 | nil=>simp
 | cons v l ih=>simp [ih,Bool.or_assoc]
theorem m60 (k:Nat):j10 (repS k)=true:=by
 unfold j10 repS
 rw [List.all_map,List.all_eq_true]
 intro i _
 show V.ow0 (if _ then _ else _)=true
 split
 ·unfold repV; split <;> rfl
 ·rfl
theorem rv0 {k:Nat} {i:Id} {x:V}:V.hasL i (repS k++[x])=V.has i x:=by rw [qB0,kH0 (m60 k)]; rfl
theorem rx0 {k:Nat} {x:V}:(repS k++[x]).length=257:=by simp [repS]
theorem rw0 (k:Nat):(repS k).length=256:=by simp [repS]
theorem j20 {f:Id->Option Id} {x:V}:∀ {l:List V} {K:List V->Prop},j10 l=true->c70 f (l++[x]) K=c70 f [x] fun us=>K (l++us)
 | [],K,_=>by simp
 | v :: l,K,h=>by
  rw [eD0,Bool.and_eq_true] at h
  rw [List.cons_append,lo0]
  simp only [hold,j20 h.2]
  have hv:=h.1
  cases v <;> first | (simp [V.ow0] at hv; done) | simp
theorem q90 {i:Id} {xs:List (List V)}:∀ {l:List V},j10 l=true->l.map (V.fz i xs)=l
 | [],_=>rfl
 | v :: l,h=>by
  rw [eD0,Bool.and_eq_true] at h
  rw [List.map_cons,q90 h.2]
  have hv:=h.1
  cases v <;> first | (simp [V.ow0] at hv; done) | simp [V.fz]
theorem repC_flat:j10 repC=true:=by rw [<- repS_two]; exact m60 2
theorem box1 (x y:V):List.take 34 (List.take 256 (repS 0++[x])++y :: List.drop 257 (repS 0++[x]))++V.lst (a10 (bS [92,34])) :: List.drop 35 (List.take 256 (repS 0++[x])++y :: List.drop 257 (repS 0++[x]))=repS 1++[y]:=by rfl
theorem box2 (x y:V):List.take 92 (List.take 256 (repS 1++[x])++y :: List.drop 257 (repS 1++[x]))++V.lst (a10 (bS [92,92])) :: List.drop 93 (List.take 256 (repS 1++[x])++y :: List.drop 257 (repS 1++[x]))=repC++[y]:=by rfl
theorem o4_0 {K:List V->Prop}:fW0 old4 0 K=K (aP0 [92]):=aO0 rfl
theorem o4_1 {K:List V->Prop}:fW0 old4 1 K=K (aP0 [92,92]):=aO0 rfl
theorem o4_2 {K:List V->Prop}:fW0 old4 2 K=K (aP0 [34]):=aO0 rfl
theorem o4_3 {K:List V->Prop}:fW0 old4 3 K=K (aP0 [92,34]):=aO0 rfl
set_option maxHeartbeats 3200000 in
theorem rQ0 (st:Int):J prog dL0 [.bp (.e 0) 0] [aT0 st (.c .nilIface) (.lst old4)] (·=.ret (.ifc 209 (.bp (.e 1) 0)) [aT0 st (.c .nilIface) (.lst old4),.box (repC++[.lst [aP0 [34],aP0 [92]]])]):=by
 refine at0 g30 (by simp [aT0]) ?_
 refine rS5 @du0.eq_1 @aT0.eq_1 @hpE.eq_1 @hpE.eq_2 @br0 ?_
 refine bm0 2 (fun i=>[(5,vI (2 * i)),(4,vB (decide (i=0))),(3,.lst old4),(0,.bp (.e 0) 0),(2,.c .nilIface)]) (fun i=>[(.e 0,aT0 st (.c .nilIface) (.lst old4))]) (Wk.subs (by simp) (by simp [aT0])) ?_
 intro i hi
 have hi3:i=0\/i=1\/i=2:=by omega
 rcases hi3 with rfl | rfl | rfl
 ·refine rS7 @aT0.eq_1 @br0 @dn0 @o4_0 @o4_1 @o4_2 @o4_3 ?_
  exact .of (by omega) (Wk.subs (by simp) (by simp))
 ·refine rS7 @aT0.eq_1 @br0 @dn0 @o4_0 @o4_1 @o4_2 @o4_3 ?_
  exact .of (by omega) (Wk.subs (by simp) (by simp))
 ·refine rS7 @aT0.eq_1 @br0 @dn0 @o4_0 @o4_1 @o4_2 @o4_3 ?_
  refine bm0 2 (fun k=>[(12,vI (2 - 2 * k)),(11,.bp (.l 11 0) 0),(3,.lst old4),(0,.bp (.e 0) 0),(2,.c .nilIface)]) (repH st)
   (Wk.rens (.l 94 0) (.l 999 0) rfl (by simp) (by simp [renF]) (by simp [renF,bR0,repH,p40,aT0]; rfl)) ?_
  intro k hk
  have hk3:k=0\/k=1\/k=2:=by omega
  rcases hk3 with rfl | rfl | rfl
  ·simp +contextual (maxSteps:=2000000) (disch:=omega) [-Int.not_lt,-Int.not_le,-Nat.not_lt,-Nat.not_le,sx,repH,aT0,dn0,o4_0,o4_1,o4_2,o4_3,qS0,qT0,oX0,p40,rv0,rx0]
   refine ⟨bS [34],rfl,by simp [rw0],by simp [rw0],?_⟩
   rw [box1]
   refine .of (by omega) (Wk.rens (.l 124 0) (.l 999 0) rfl (by simp) (by simp [renF]) (by simp [renF,bR0,repH,p40,aT0,j20 (m60 1)]))
  ·simp +contextual (maxSteps:=2000000) (disch:=omega) [-Int.not_lt,-Int.not_le,-Nat.not_lt,-Nat.not_le,sx,repH,aT0,dn0,o4_0,o4_1,o4_2,o4_3,qS0,qT0,oX0,p40,rv0,rx0]
   refine ⟨bS [92],rfl,by simp [rw0],by simp [rw0],?_⟩
   rw [box2]
   refine .of (by omega) (Wk.frz (.l 124 0) rfl (by simp [V.fz]) ?_)
   simp [repH,Ob.fz,V.fz,aT0,q90 repC_flat]
  ·refine rS10 @repH.eq_1 @aT0.eq_1 @dn0 @o4_0 @o4_1 @o4_2 @o4_3 @qS0 @qT0 @oX0 ?_
   refine ax0 [.l 11 0] ?_
   exact rT0
end Go.Am
end

section
namespace Go.Am
variable {P:Program} {H:Imm} {μ:Mu} {w w' w'':World}
theorem da0 {b j:Nat} {x:Value} {cs:Array Value} {ty:TypeId} {fz:Nat × Nat} (h:w.heap[b]?=some (.cells cs ty fz)) :
  (w.setCell ⟨b,j,none⟩ x).heap[b]?=some (.cells (cs.setIfInBounds j x) ty fz):=by
 simp [World.setCell,Array.getElem?_modify,h]
theorem iZ0 {b b' j:Nat} {x:Value} (h:b' ≠ b):(w.setCell ⟨b,j,none⟩ x).heap[b']?=w.heap[b']?:=by
 have h':¬ b=b':=fun e=>h e.symm
 simp [World.setCell,Array.getElem?_modify,h']
theorem k90 {b j:Nat} {cs:Array Value} {ty:TypeId} (h:w.heap[b]?=some (.cells cs ty (0,0))):w.frozen? ⟨b,j,none⟩=false:=by
 simp [World.frozen?,h]
structure Chg (b:Nat) (w w':World):Prop where
 os:w'.os=w.os
 tape:w'.tape=w.tape
 output:w'.output=w.output
 size:w'.heap.size=w.heap.size
 keep:∀ b',b' ≠ b->w'.heap[b']?=w.heap[b']?
theorem Chg.refl (b:Nat) (w:World):Chg b w w:=⟨rfl,rfl,rfl,rfl,fun _ _=>rfl⟩
theorem Chg.trans {b:Nat} (h:Chg b w w') (k:Chg b w' w''):Chg b w w'' :=
 ⟨k.os.trans h.os,k.tape.trans h.tape,k.output.trans h.output,k.size.trans h.size,fun b' hb=>(k.keep b' hb).trans (h.keep b' hb)⟩
theorem Chg.set (b j:Nat) (x:Value) (w:World):Chg b w (w.setCell ⟨b,j,none⟩ x) :=
 ⟨rfl,rfl,rfl,by simp,fun b' hb=>iZ0 hb⟩
theorem Chg.drew (b:Nat) (w:World):Chg b w w.drew:=⟨rfl,rfl,rfl,rfl,fun _ _=>rfl⟩
theorem ObOk.chg {b:Nat} {i:Id} {o:Ob} (h:ObOk H μ w i o) (hc:Chg b w w') (hb:∀ blk,μ i=some blk->o.own=true->blk.b ≠ b) (hI:H b=none):ObOk H μ w' i o:=by
 cases o with
 | gone=>trivial
 | box cs =>
  obtain ⟨blk,vals,ty,h1,h2,h3⟩:=h
  exact ⟨blk,vals,ty,h1,(hc.keep _ (hb _ h1 rfl)).trans h2,h3⟩
 | row ty sz own xs =>
  rcases h with h | ⟨blk,vals,h1,h2,h3,h4,h5,h6,h7,h8,h9⟩
  ·exact .inl h
  ·refine .inr ⟨blk,vals,h1,h2,(hc.keep _ ?_).trans h3,h4,h5,h6,h7,h8,h9⟩
   cases own with
   | true=>exact hb _ h1 rfl
   | false=>intro e; have:=h8 rfl; rw [e,hI] at this; cases this
 | mpo kd kvs =>
  obtain ⟨blk,es,clk,h1,h2,h3⟩:=h
  exact ⟨blk,es,clk,h1,(hc.keep _ (hb _ h1 rfl)).trans h2,h3⟩
theorem Wd.poke {cs:List V} {blk:Blk} {vals:Array Value} {ty:TypeId} {j:Nat} {v:V} {x:Value} (hW:Wd H μ (hpE 0 [.box cs]) w) (hμ:μ (.e 0)=some blk)
  (hb:w.heap[blk.b]?=some (.cells vals ty (0,0))) (hj:j < vals.size) (hx:R H μ v x):Wd H μ (hpE 0 [.box (cs.set j v)]) (w.setCell ⟨blk.b,j,none⟩ x):=by
 obtain ⟨blk',vals',ty',h1,h2,h3,h4,h5⟩:=hW.ob (.e 0) _ rfl
 rw [hμ] at h1; injection h1 with h1; subst h1
 rw [hb] at h2; injection h2 with h2; injection h2 with e1 e2 e3; subst e1; subst e2
 refine ⟨fun i o hl=>?_,fun i k oi ok bi bk hi _ hk _ _ _ _=>?_,fun b c h=>?_,hW.glo⟩
 ·have hi:i=.e 0/\o=.box (cs.set j v):=by
   simp only [hpE,List.lookup_cons] at hl
   split at hl
   ·rename_i h; injection hl with hl; exact ⟨by simpa using h,hl.symm⟩
   ·simp at hl
  obtain ⟨rfl,rfl⟩:=hi
  refine ⟨blk,vals.setIfInBounds j x,ty,hμ,da0 hb,by simp [h3],h4,fun k u hk=>?_⟩
  rw [List.getElem?_set] at hk
  split at hk
  ·rename_i e; subst e
   split at hk
   ·injection hk with hk; subst hk
    exact ⟨x,by simp [Array.getElem?_setIfInBounds,hj],hx⟩
   ·cases hk
  ·rename_i e
   obtain ⟨y,y1,y2⟩:=h5 k u hk
   exact ⟨y,by rw [Array.getElem?_setIfInBounds]; simpa [e] using y1,y2⟩
 ·have hi':i=.e 0:=by
   simp only [hpE,List.lookup_cons] at hi
   split at hi
   ·rename_i h; simpa using h
   ·simp at hi
  have hk':k=.e 0:=by
   simp only [hpE,List.lookup_cons] at hk
   split at hk
   ·rename_i h; simpa using h
   ·simp at hk
  rw [hi',hk']
 ·obtain ⟨t,fz,e⟩:=hW.imm b c h
  have hne:b ≠ blk.b:=fun e=>by rw [e,h4.1] at h; cases h
  exact ⟨t,fz,(iZ0 hne).trans e⟩
theorem Wd.second {o:Ob} {cs:List V} {blk:Blk} (hW:Wd H μ (hpE 0 [o,.box cs]) w) (ho:o.own=true) (hμ:μ (.e 0)=some blk) (hI:H blk.b=none) (hc:Chg blk.b w w')
  (hcs:∀ i v,v ∈ cs->v.has i=false):∃ blk',μ (.e 1)=some blk'/\blk'.b ≠ blk.b/\Wd H (fun i=>if i=.e 0 then some blk' else μ i) (hpE 0 [.box cs]) w':=by
 obtain ⟨blk',vals,ty,h1,h2,h3,h4,h5⟩:=hW.ob (.e 1) (.box cs) (by simp [hpE,List.lookup_cons]; rfl)
 have hne:blk'.b ≠ blk.b:=fun e=>by
  have:=hW.inj (.e 1) (.e 0) (.box cs) o blk' blk (by simp [hpE,List.lookup_cons]; rfl) rfl rfl ho h1 hμ e
  simp at this
 refine ⟨blk',h1,hne,fun i o' hl=>?_,fun i k oi ok bi bk hi _ hk _ _ _ _=>?_,fun b c h=>?_,hW.glo⟩
 ·have hi:i=.e 0/\o'=.box cs:=by
   simp only [hpE,List.lookup_cons] at hl
   split at hl
   ·rename_i h; injection hl with hl; exact ⟨by simpa using h,hl.symm⟩
   ·simp at hl
  obtain ⟨rfl,rfl⟩:=hi
  refine ⟨blk',vals,ty,by simp,(hc.keep _ hne).trans h2,h3,h4,fun k u hk=>?_⟩
  obtain ⟨y,y1,y2⟩:=h5 k u hk
  exact ⟨y,y1,y2.mono (Imm.le_refl H) fun i hi=>by rw [hcs i u (List.mem_of_getElem? hk)] at hi; cases hi⟩
 ·have hi':i=.e 0:=by
   simp only [hpE,List.lookup_cons] at hi
   split at hi
   ·rename_i h; simpa using h
   ·simp at hi
  have hk':k=.e 0:=by
   simp only [hpE,List.lookup_cons] at hk
   split at hk
   ·rename_i h; simpa using h
   ·simp at hk
  rw [hi',hk']
 ·obtain ⟨t,fz,e⟩:=hW.imm b c h
  have hne:b ≠ blk.b:=fun e=>by rw [e,hI] at h; cases h
  exact ⟨t,fz,(hc.keep _ hne).trans e⟩
end Go.Am
end

section
namespace Go.Am
set_option maxRecDepth 100000
theorem pY0 (w:World):(callFunc 167 #[]).run Go.Proofs.Tryz.prog w=.ok (.value (.tuple #[])) w:=run_call_mark0 Go.Proofs.Tryz.func167 (by kernel_rfl) (by kernel_rfl) (by kernel_rfl) .disable (by kernel_rfl) w
theorem rt0 (w:World):(callFunc 169 #[]).run Go.Proofs.Tryz.prog w=.ok (.value (.tuple #[])) w:=run_call_mark0 Go.Proofs.Tryz.func169 (by kernel_rfl) (by kernel_rfl) (by kernel_rfl) .enable (by kernel_rfl) w
theorem q_acquire (a:Addr) (w:World):(callFunc 170 #[.pointer (some a)]).run Go.Proofs.Tryz.prog w=.ok (.value (.tuple #[])) w:=run_call_marked Go.Proofs.Tryz.func170 (by kernel_rfl) (by kernel_rfl) (by kernel_rfl) .acquire (by kernel_rfl) a w
theorem nE0 (a:Addr) (w:World):(callFunc 172 #[.pointer (some a)]).run Go.Proofs.Tryz.prog w=.ok (.value (.tuple #[])) w:=run_call_marked Go.Proofs.Tryz.func172 (by kernel_rfl) (by kernel_rfl) (by kernel_rfl) .releaseMerge (by kernel_rfl) a w
theorem l60 (a:Addr) (x:Value) (u:FrameMode) (w:World) (hc:w.cell? a=some x) (hz:w.frozen? a=false) :
  CallsD Go.Proofs.Tryz.prog 156 #[.pointer (some a),.bool true] u w fun e u' w'=>u'=u/\(e=.returned (.tuple #[])/\w'=w.drew.setCell a (.int .u32 1)):=by
 have hc':w.drew.cell? a=some x:=by go_simp
 have hz':w.drew.frozen? a=false:=by go_simp
 have hst:=run_call_store (P:=Go.Proofs.Tryz.prog) Go.Proofs.Tryz.func163 (by kernel_rfl) (by kernel_rfl) (by kernel_rfl) (by kernel_rfl) (k:=.u32) (y:=1) hc' hz'
 go_enter_d Go.Proofs.Tryz.func156,Go.Proofs.Tryz.ntmps156
 go_wp2
 go_region_calls
 all_goals (go_end0; exact ⟨rfl,rfl⟩)
theorem lv0 (a:Addr) (u:FrameMode) (w:World) (hc:w.cell? a=some (.int .i32 1)) (hz:w.frozen? a=false) :
  CallsD Go.Proofs.Tryz.prog 155 #[.pointer (some a)] u w fun e u' w'=>u'=u/\(e=.returned (.tuple #[])/\w'=w.setCell a (.int .i32 0)):=by
 have hd:=pY0
 have he:=rt0
 have hr:=nE0
 have hadd:=run_call_add (P:=Go.Proofs.Tryz.prog) Go.Proofs.Tryz.func173 (by kernel_rfl) (by kernel_rfl) (by kernel_rfl) .i32 (by kernel_rfl) (y:=-1) (s:=0) hc hz (by simp [go_sem]; rfl)
 have hcv:=run_convert_to_unsafe (P:=Go.Proofs.Tryz.prog) (src:=225) (dst:=125) Go.Proofs.Tryz.underlying225 Go.Proofs.Tryz.underlying125 (by kernel_rfl) hc
 go_enter_d Go.Proofs.Tryz.func155,Go.Proofs.Tryz.ntmps155
 go_wp2
 go_end0
 go_wp2
 go_end0
 exact ⟨rfl,rfl⟩
theorem qR0 (a:Addr) (w:World) (hc:w.cell? a=some (.int .i32 0)) (hz:w.frozen? a=false) :
  Calls Go.Proofs.Tryz.prog 154 #[.pointer (some a)] w fun e w'=>e=.returned (.tuple #[])/\w'=w.setCell a (.int .i32 1):=by
 have hd:=pY0
 have he:=rt0
 have ha:=q_acquire
 have hcas:=run_call_cas_hit (P:=Go.Proofs.Tryz.prog) Go.Proofs.Tryz.func168 (by kernel_rfl) (by kernel_rfl) (by kernel_rfl) .i32 (by kernel_rfl) (y:=1) hc hz
 have hc':(w.setCell a (.int .i32 1)).cell? a=some (.int .i32 1):=World.cell?_setCell_same w a _ hc
 have hcv:=run_convert_to_unsafe (P:=Go.Proofs.Tryz.prog) (src:=225) (dst:=125) Go.Proofs.Tryz.underlying225 Go.Proofs.Tryz.underlying125 (by kernel_rfl) hc'
 go_enter Go.Proofs.Tryz.func154,Go.Proofs.Tryz.ntmps154
 go_wp2
 first | go_end0 | (simp only [Exit.inBlock,Exit.then]; refine bodyPost_ret (results_none rfl _ _ _) rfl ?_) | refine bodyPost_ret (results_none rfl _ _ _) rfl ?_
 go_wp2
 go_end0
 exact ⟨rfl,rfl⟩
end Go.Am
end

section
namespace Go.Am
set_option maxRecDepth 100000
theorem J.called {f:FuncId} {fn:Func} {c:Code} {args:List V} {obs:List Ob} {Q:Res->Prop} (hf:prog.funcs[f]?=some fn) (hn:(fn.name == "runtime.NumGoroutine")=false) (hb:fn.body=some c) (h:J prog f args obs Q)
  {H:Imm} {μ:Mu} {us:Array Value} {w:World} (h3:RL H μ args us) (hW:Wd H μ (hpE 0 obs) w) :
  Calls prog f us w fun e w'=>∃ r H' μ',Q r/\JP H μ obs.length (hpE 0 obs) w r e H' μ' w':=by
 have hn':¬ fn.name = "runtime.NumGoroutine":=by simpa using hn
 have hrun:(callFunc f us).run prog w=.ok (.enter f us) w:=by simp [callFunc,hf,hn',hb]
 have hc:=h H μ us w h3 hW
 unfold dG0 at hc
 rw [hrun] at hc
 exact hc
theorem RL_one {H:Imm} {μ:Mu} {v:V} {x:Value} (h:R H μ v x):RL H μ [v] #[x]:=⟨rfl,fun j u hj=>by
 match j,hj with
 | 0,hj=>injection hj with hj; subst hj; exact h
 | j + 1,hj=>simp at hj⟩
theorem RL_two {H:Imm} {μ:Mu} {v u:V} {x y:Value} (h:R H μ v x) (k:R H μ u y):RL H μ [v,u] #[x,y]:=⟨rfl,fun j z hj=>by
 match j,hj with
 | 0,hj=>injection hj with hj; subst hj; exact h
 | 1,hj=>injection hj with hj; subst hj; exact k
 | j + 2,hj=>simp at hj⟩
abbrev gQ0:Ob:=aT0 1 (.c .nilIface) (.lst old4)
abbrev repBox:List V:=repC++[.lst [aP0 [34],aP0 [92]]]
structure rG0 (H:Imm) (μ:Mu) (b:Nat) (w w2:World) (p:Nat):Prop where
 nj:∃ H' μ' blk blk',Nj H μ (hpE 0 [gQ0]) w H' μ' (hpE 0 [gQ0,.box repBox]) w2/\Wd H' μ' (hpE 0 [gQ0,.box repBox]) w2/\μ' (.e 0)=some blk/\blk.b=b/\μ' (.e 1)=some blk'/\blk'.b=p
 cells:∃ x0 x1 x2 x3 x4 ty,w2.heap[b]?=some (.cells #[x0,x1,x2,x3,x4] ty (0,0))/\x0=.int .u32 0/\x1=.int .i32 1
theorem box5 {H:Imm} {μ:Mu} {w:World} {st:Int} {r l:V} {hp:Hp} (hl:hp.lookup (.e 0)=some (aT0 st r l)) (hW:Wd H μ hp w) :
  ∃ blk x3 x4,μ (.e 0)=some blk/\H blk.b=none/\R H μ r x3/\R H μ l x4/\w.heap[blk.b]?=some (.cells #[.int .u32 0,.int .i32 st,.int .u32 0,x3,x4] blk.cap (0,0)):=by
 obtain ⟨blk,vals,ty,h1,h2,h3,⟨h4,h4'⟩,h5⟩:=hW.ob (.e 0) _ hl
 subst h4'
 obtain ⟨y0,a0,r0⟩:=h5 0 _ rfl
 obtain ⟨y1,a1,r1⟩:=h5 1 _ rfl
 obtain ⟨y2,a2,r2⟩:=h5 2 _ rfl
 obtain ⟨y3,a3,r3⟩:=h5 3 _ rfl
 obtain ⟨y4,a4,r4⟩:=h5 4 _ rfl
 cases r0; cases r1; cases r2
 refine ⟨blk,y3,y4,h1,h4,r3,r4,?_⟩
 rw [h2]
 congr 2
 have hs:vals.size=5:=h3
 apply Array.ext
 ·simpa using hs
 ·intro i h1 h2
  have h3:i < 5:=by omega
  rw [<- Option.some_inj,<- Array.getElem?_eq_getElem]
  match i,h3 with
  | 0,_=>simpa using a0
  | 1,_=>simpa using a1
  | 2,_=>simpa using a2
  | 3,_=>simpa using a3
  | 4,_=>simpa using a4
theorem qt0 {H:Imm} {μ:Mu} {w:World} {b:Nat} {blk:Blk} (hW:Wd H μ (hpE 0 [gQ0]) w) (hμ:μ (.e 0)=some blk) (hb:blk.b=b) :
  Calls Go.Proofs.Tryz.prog 150 #[.pointer (some ⟨b,0,none⟩)] w fun e w2=>∃ p,e=.returned (.iface 209 (.pointer (some ⟨p,0,none⟩)))/\rG0 H μ b w w2 p:=by
 obtain ⟨c,hc⟩:∃ c,Go.Proofs.Tryz.f150.body=some c:=⟨_,rfl⟩
 subst hb
 refine Calls.mono (J.called Go.Proofs.Tryz.func150 (by kernel_rfl) hc (rQ0 1) (RL_one (.bp (.e 0) 0 blk hμ)) hW) ?_
 rintro e w2 ⟨r,H',μ',rfl,⟨x,rfl,hx⟩,hN,hW',_,hk⟩
 cases hx with
 | ifc _ _ y hy =>
 cases hy with
 | bp _ _ blk' h' =>
 have hk0:μ' (.e 0)=some blk:=(hk 0 gQ0 (by simp) rfl (by simp [aT0])).trans hμ
 obtain ⟨blk0,x3,x4,e0,_,_,_,e1⟩:=box5 (st:=1) rfl hW'
 rw [hk0] at e0; injection e0 with e0; subst e0
 exact ⟨_,rfl,⟨H',μ',blk,blk',hN,hW',hk0,rfl,h',rfl⟩,_,_,_,_,_,_,e1,rfl,rfl⟩
theorem oo0 {w:World} {b j:Nat} {cs:Array Value} {ty:TypeId} {x:Value} (h:w.heap[b]?=some (.cells cs ty (0,0))) (hx:cs[j]?=some x):w.cell? ⟨b,j,none⟩=some x:=by rw [hs0 h,hx]
abbrev jn0 (w2:World) (b p:Nat):World:=(w2.setCell ⟨b,3,none⟩ (.iface 209 (.pointer (some ⟨p,0,none⟩)))).setCell ⟨b,4,none⟩ (.slice none 0 0)
set_option maxHeartbeats 1600000 in
theorem mt0 {H:Imm} {μ:Mu} {w:World} {b:Nat} {blk:Blk} (hW:Wd H μ (hpE 0 [gQ0]) w) (hμ:μ (.e 0)=some blk) (hb:blk.b=b) :
  Calls Go.Proofs.Tryz.prog 141 #[.pointer (some ⟨b,0,none⟩)] w fun e w'=>e=.returned (.tuple #[])/\∃ w2 p,w'=jn0 w2 b p/\rG0 H μ b w w2 p:=by
 go_enter Go.Proofs.Tryz.func141,Go.Proofs.Tryz.ntmps141
 go_wp2_with (go_at_call 150; refine (qt0 hW hμ hb).mono ?_; rintro e w2 ⟨p,rfl,hB⟩; obtain ⟨x0,x1,x2,x3,x4,ty,e1,-,-⟩:=hB.cells; have c3:=oo0 (j:=3) e1 rfl; have c4:=oo0 (j:=4) e1 rfl; have f3:=k90 (j:=3) e1; have f4:=k90 (j:=4) e1)
 go_end0
 exact ⟨rfl,_,_,rfl,hB⟩
abbrev me0 (w2:World) (b p:Nat):World:=((jn0 w2 b p).drew.setCell ⟨b,0,none⟩ (.int .u32 1)).setCell ⟨b,1,none⟩ (.int .i32 0)
theorem pE0 {w2:World} {b p:Nat} {x0 x1 x2 x3 x4:Value} {ty:TypeId} (h:w2.heap[b]?=some (.cells #[x0,x1,x2,x3,x4] ty (0,0))) :
  (jn0 w2 b p).heap[b]?=some (.cells #[x0,x1,x2,.iface 209 (.pointer (some ⟨p,0,none⟩)),.slice none 0 0] ty (0,0)):=by
 have h1:=da0 (j:=3) (x:=.iface 209 (.pointer (some ⟨p,0,none⟩))) h
 have h2:=da0 (j:=4) (x:=.slice none 0 0) h1
 simpa using h2
theorem done_heap {w2:World} {b p:Nat} {x0 x1 x2 x3 x4:Value} {ty:TypeId} (h:w2.heap[b]?=some (.cells #[x0,x1,x2,x3,x4] ty (0,0))) :
  (me0 w2 b p).heap[b]?=some (.cells #[.int .u32 1,.int .i32 0,x2,.iface 209 (.pointer (some ⟨p,0,none⟩)),.slice none 0 0] ty (0,0)):=by
 have h0:(jn0 w2 b p).drew.heap[b]?=_:=pE0 (p:=p) h
 have h1:=da0 (j:=0) (x:=.int .u32 1) h0
 have h2:=da0 (j:=1) (x:=.int .i32 0) h1
 simpa using h2
theorem done_chg (w2:World) (b p:Nat):Chg b w2 (me0 w2 b p) :=
 (((((Chg.set b 3 _ w2).trans (Chg.set b 4 _ _)).trans (Chg.drew b _)).trans (Chg.set b 0 _ _))).trans (Chg.set b 1 _ _)
theorem Wd.locked {H:Imm} {μ:Mu} {w:World} {blk:Blk} (hW:Wd H μ (hpE 0 [aT0 0 (.c .nilIface) (.lst old4)]) w) (hμ:μ (.e 0)=some blk):Wd H μ (hpE 0 [gQ0]) (w.setCell ⟨blk.b,1,none⟩ (.int .i32 1)):=by
 obtain ⟨blk0,x3,x4,e0,hI,r3,r4,hB⟩:=box5 (st:=0) rfl hW
 rw [hμ] at e0; injection e0 with e0; subst e0
 exact Wd.poke (j:=1) (v:=.c (.int .i32 1)) hW hμ hB (by simp) (.c _)
set_option maxHeartbeats 1600000 in
theorem sp0 {H:Imm} {μ:Mu} {w:World} {b:Nat} {blk:Blk} (hW:Wd H μ (hpE 0 [aT0 0 (.c .nilIface) (.lst old4)]) w) (hμ:μ (.e 0)=some blk) (hb:blk.b=b) :
  Calls Go.Proofs.Tryz.prog 149 #[.pointer (some ⟨b,0,none⟩),.func (.func 141) #[.pointer (some ⟨b,0,none⟩)] #[]] w fun e w' =>
   e=.returned (.tuple #[])/\∃ w2 p,w'=me0 w2 b p/\rG0 H μ b (w.setCell ⟨b,1,none⟩ (.int .i32 1)) w2 p:=by
 obtain ⟨blk0,x3,x4,e0,hI,r3,r4,hB⟩:=box5 (st:=0) rfl hW
 rw [hμ] at e0; injection e0 with e0; subst e0
 have hW1:=Wd.locked hW hμ
 subst hb
 have c0:=oo0 (j:=0) hB rfl
 have c1:=oo0 (j:=1) hB rfl
 have f1:=k90 (j:=1) hB
 have hB1:(w.setCell ⟨blk.b,1,none⟩ (.int .i32 1)).heap[blk.b]?=some (.cells #[.int .u32 0,.int .i32 1,.int .u32 0,x3,x4] blk.cap (0,0)):=by
  have:=da0 (j:=1) (x:=.int .i32 1) hB
  simpa using this
 have hl:=run_call_load (P:=Go.Proofs.Tryz.prog) Go.Proofs.Tryz.func153 (by kernel_rfl) (by kernel_rfl) (by kernel_rfl) .u32 (by kernel_rfl) (w:=w.setCell ⟨blk.b,1,none⟩ (.int .i32 1)) (a:=⟨blk.b,0,none⟩) (x:=0) (oo0 (j:=0) hB1 rfl)
 have hnot:∀ (x:Bool) (w:World),(Op.unary .not (.bool x)).run Go.Proofs.Tryz.prog w=.ok (.bool (!x)) w:=fun _ _=>rfl
 go_enter_defers Go.Proofs.Tryz.func149,Go.Proofs.Tryz.ntmps149
 go_wp2_with (go_at_call 154; refine (qR0 ⟨blk.b,1,none⟩ _ c1 f1).mono ?_; rintro e w' ⟨rfl,rfl⟩)
 go_wp2_with (first | (go_at_call 141; refine (mt0 hW1 hμ rfl).mono ?_; rintro e w' ⟨rfl,w2,p,rfl,hB2⟩) | (go_at_call 148; go_in))
 obtain ⟨x0,x1,x2,y3,y4,ty,e1,rfl,rfl⟩:=hB2.cells
 have e3:=pE0 (p:=p) e1
 refine leaves_cons (f:=156) (args:=#[.pointer (some ⟨blk.b,0,none⟩),.bool true]) (by simp) (by simp [go_sem]) ?_
 refine (l60 ⟨blk.b,0,none⟩ (.int .u32 0) .returning _ (oo0 (j:=0) e3 rfl) (k90 e3)).mono ?_
 rintro e u' w'' ⟨rfl,rfl,rfl⟩
 have e4:((jn0 w2 blk.b p).drew.setCell ⟨blk.b,0,none⟩ (.int .u32 1)).heap[blk.b]?=_:=da0 (w:=(jn0 w2 blk.b p).drew) (j:=0) (x:=.int .u32 1) e3
 refine leaves_cons (f:=155) (args:=#[.pointer (some ⟨blk.b,1,none⟩)]) (by simp [settle]) (by simp [go_sem]) ?_
 refine (lv0 ⟨blk.b,1,none⟩ _ _ (oo0 (j:=1) e4 rfl) (k90 e4)).mono ?_
 rintro e u' w'' ⟨rfl,rfl,rfl⟩
 simp [Leaves,settle,results,Go.Proofs.Tryz.results149]
 exact ⟨_,_,rfl,hB2⟩
set_option maxHeartbeats 1600000 in
theorem do_calls {H:Imm} {μ:Mu} {w:World} {b:Nat} {blk:Blk} (hW:Wd H μ (hpE 0 [aT0 0 (.c .nilIface) (.lst old4)]) w) (hμ:μ (.e 0)=some blk) (hb:blk.b=b) :
  Calls Go.Proofs.Tryz.prog 140 #[.pointer (some ⟨b,0,none⟩),.func (.func 141) #[.pointer (some ⟨b,0,none⟩)] #[]] w fun e w' =>
   e=.returned (.tuple #[])/\∃ w2 p,w'=me0 w2 b p/\rG0 H μ b (w.setCell ⟨b,1,none⟩ (.int .i32 1)) w2 p:=by
 obtain ⟨blk0,x3,x4,e0,hI,r3,r4,hB⟩:=box5 (st:=0) rfl hW
 rw [hμ] at e0; injection e0 with e0; subst e0
 subst hb
 have hl:=run_call_load (P:=Go.Proofs.Tryz.prog) Go.Proofs.Tryz.func153 (by kernel_rfl) (by kernel_rfl) (by kernel_rfl) .u32 (by kernel_rfl) (w:=w) (a:=⟨blk.b,0,none⟩) (x:=0) (oo0 (j:=0) hB rfl)
 have hnot:∀ (x:Bool) (w:World),(Op.unary .not (.bool x)).run Go.Proofs.Tryz.prog w=.ok (.bool (!x)) w:=fun _ _=>rfl
 go_enter Go.Proofs.Tryz.func140,Go.Proofs.Tryz.ntmps140
 go_wp2_with (first | (go_at_call 149; refine (sp0 hW hμ rfl).mono ?_; rintro e w' ⟨rfl,w2,p,rfl,hB2⟩) | (go_at_call 148; go_in))
 go_end0
 exact ⟨rfl,_,_,rfl,hB2⟩
theorem rG0.rest {H:Imm} {μ:Mu} {w w1 w2 w3:World} {b p:Nat} {o:Ob} (h:rG0 H μ b w1 w2 p) (hm:μ (.e 0) ≠ none) (h1:Chg b w w1) (h3:Chg b w2 w3) (hb:∀ b',Owns (hpE 0 [gQ0]) μ b'->b'=b) (ho:Owns (hpE 0 [o]) μ b) :
  ∃ H' μ' blk',Nj H μ (hpE 0 [o]) w H' μ' (hpE 0 [.gone]) w3/\Wd H' μ' (hpE 0 p30) w3/\μ' (.e 0)=some blk'/\blk'.b=p/\(p < w.heap.size->False):=by
 obtain ⟨⟨H',μ',blk,blk',hN,hW,m0,e0,m1,e1⟩,_⟩:=h
 subst e0; subst e1
 obtain ⟨blk0,x3,x4,q0,hI,_,_,_⟩:=box5 (st:=1) rfl hW
 rw [m0] at q0; injection q0 with q0; subst q0
 obtain ⟨blk1,k1,k2,k3⟩:=Wd.second hW rfl m0 hI h3 fun i v hv=>(by
  have:=kH0 (js0 [aP0 [34],aP0 [92]]) i
  rw [<- Bool.not_eq_true]
  intro hh
  obtain ⟨j,hj⟩:=List.getElem?_of_mem hv
  have:=V.gO0 hj hh
  rw [kH0 (js0 _) i] at this
  cases this)
 rw [m1] at k1; injection k1 with k1; subst k1
 have hfr:¬ blk'.b < w.heap.size:=fun hlt=>by
  have:=hN.own blk'.b ⟨.e 1,.box repBox,blk',rfl,rfl,m1,rfl⟩ (by rw [h1.size]; exact hlt)
  exact k2 (hb _ this)
 refine ⟨H',_,blk',⟨hN.imm,h3.os.trans (hN.os.trans h1.os),h3.tape.trans (hN.tape.trans h1.tape),h3.output.trans (hN.output.trans h1.output),?_,fun b' hlt hno=>?_,fun b' hh=>?_,fun b' cs g1 g2=>?_⟩,k3,by simp,rfl,hfr⟩
 ·rw [h3.size,<- h1.size]; exact hN.size
 ·have hne:b' ≠ blk.b:=fun e=>hno (by rw [e]; exact ho)
  rw [h3.keep b' hne,hN.keep b' (by rw [h1.size]; exact hlt) (fun hh=>hne (hb _ hh)),h1.keep b' hne]
 ·obtain ⟨i,ob,bk,g1,g2,_⟩:=hh
  simp only [hpE,List.lookup_cons] at g1
  split at g1
  ·injection g1 with g1; subst g1; cases g2
  ·simp at g1
 ·rcases hN.fresh b' cs g1 g2 with g3 | g3
  ·exact .inl (by rw [<- h1.size]; exact g3)
  ·exact .inr (by rw [hb _ g3]; exact ho)
theorem owns_one {o:Ob} {μ:Mu} {b:Nat} {blk:Blk} (ho:o.own=true) (hμ:μ (.e 0)=some blk) (hb:blk.b=b):Owns (hpE 0 [o]) μ b:=⟨.e 0,o,blk,rfl,ho,hμ,hb⟩
theorem mY0 {o:Ob} {μ:Mu} {b:Nat} {blk:Blk} (hμ:μ (.e 0)=some blk) (h:Owns (hpE 0 [o]) μ b):b=blk.b:=by
 obtain ⟨i,ob,bk,g1,_,g2,g3⟩:=h
 simp only [hpE,List.lookup_cons] at g1
 split at g1
 ·rename_i hi
  have:i=.e 0:=by simpa using hi
  subst this
  rw [hμ] at g2; injection g2 with g2; subst g2
  exact g3.symm
 ·simp at g1
theorem owns_gone {μ:Mu} {b:Nat}:¬ Owns (hpE 0 [.gone]) μ b:=by
 rintro ⟨i,ob,bk,g1,g2,_⟩
 simp only [hpE,List.lookup_cons] at g1
 split at g1
 ·injection g1 with g1; subst g1; cases g2
 ·simp at g1
theorem Nj.then {H H' H5:Imm} {μ μ' μ5:Mu} {w w3 w5:World} {o r:Ob} {blk':Blk} (h:Nj H μ (hpE 0 [o]) w H' μ' (hpE 0 [.gone]) w3) (hm:μ' (.e 0)=some blk') (hf:¬ blk'.b < w.heap.size)
  (k:Nj H' μ' (hpE 0 [r]) w3 H5 μ5 (hpE 0 [r]) w5):Nj H μ (hpE 0 [o]) w H5 μ5 (hpE 0 [.gone]) w5:=by
 refine ⟨Imm.le_trans h.imm k.imm,k.os.trans h.os,k.tape.trans h.tape,k.output.trans h.output,Nat.le_trans h.size k.size,fun b' hlt hno=>?_,fun b' hh=>absurd hh owns_gone,fun b' cs g1 g2=>?_⟩
 ·rw [k.keep b' (Nat.lt_of_lt_of_le hlt h.size) (fun hh=>hf (by rw [<- mY0 hm hh]; exact hlt)),h.keep b' hlt hno]
 ·cases h1:H' b' with
  | some c=>exact h.fresh b' c h1 g2
  | none =>
   rcases k.fresh b' cs g1 h1 with g3 | g3
   ·exact .inl (Nat.le_trans h.size g3)
   ·rw [mY0 hm g3]; exact .inl (Nat.le_of_not_lt hf)
theorem Wd.gone {H:Imm} {μ:Mu} {hp:Hp} {w:World} (h:Wd H μ hp w):Wd H μ (hpE 0 [.gone]) w:=by
 refine ⟨fun i o hl=>?_,fun i j oi oj bi bj hi ho=>?_,h.imm,h.glo⟩
 ·simp only [hpE,List.lookup_cons] at hl
  split at hl
  ·injection hl with hl; subst hl; trivial
  ·simp at hl
 ·simp only [hpE,List.lookup_cons] at hi
  split at hi
  ·injection hi with hi; subst hi; cases ho
  ·simp at hi
theorem q_method (a:Addr) (W:World):Sem.run Go.Proofs.Tryz.prog (method 365 209 (.pointer (some a)) "Replace") W=.ok (208,.pointer (some a)) W:=by kernel_rfl
set_option maxHeartbeats 1600000 in
theorem og0 (s:Bs) (hs:s.length < 2 ^ 39) {H:Imm} {μ:Mu} {w:World} {blk:Blk} (hW:Wd H μ (hpE 0 [aT0 0 (.c .nilIface) (.lst old4)]) w) (hμ:μ (.e 0)=some blk) :
  Calls Go.Proofs.Tryz.prog 127 #[.pointer (some ⟨blk.b,0,none⟩),.string (bS s)] w fun e w' =>
   e=.returned (.string (bS (repB s)))/\∃ H' μ',Nj H μ (hpE 0 [aT0 0 (.c .nilIface) (.lst old4)]) w H' μ' (hpE 0 [.gone]) w'/\Wd H' μ' (hpE 0 [.gone]) w':=by
 have hmf:∀ (fn:Fn) (first cap:Array Value) (w:World),(Instr.makeFunc fn first cap).run Go.Proofs.Tryz.prog w=.ok (.func fn first cap) w:=fun _ _ _ _=>rfl
 obtain ⟨cc,hcc⟩:∃ c,Go.Proofs.Tryz.f208.body=some c:=⟨_,rfl⟩
 have hme:=q_method
 obtain ⟨blk0,x3,x4,m0,hI,r3,r4,hB⟩:=box5 (st:=0) rfl hW
 rw [hμ] at m0; injection m0 with m0; subst m0
 go_enter Go.Proofs.Tryz.func127,Go.Proofs.Tryz.ntmps127
 go_wp2_with (first
  | (go_at_call 140; refine (do_calls hW hμ rfl).mono ?_; rintro e w' ⟨rfl,w2,p,rfl,hB2⟩; obtain ⟨x0,x1,x2,y3,y4,ty,e1,-,-⟩:=hB2.cells; have c3:=oo0 (j:=3) (done_heap (p:=p) e1) rfl
     obtain ⟨H',μ',blk',hN,hW',m1,rfl,hf⟩:=hB2.rest (w:=w) (o:=aT0 0 (.c .nilIface) (.lst old4)) (by rw [hμ]; simp) (Chg.set blk.b 1 _ w) (done_chg w2 blk.b p) (fun b' hb=>mY0 hμ hb) (owns_one rfl hμ rfl))
  | (go_at_call 208; refine (J.called Go.Proofs.Tryz.func208 (by kernel_rfl) hcc (pk0 s hs) (RL_two (.bp (.e 0) 0 blk' m1) (.c _)) hW').mono ?_; rintro e w5 ⟨r,H5,μ5,rfl,⟨x,rfl,hx⟩,hN5,hW5,-,-⟩; cases hx))
 go_ret
 exact ⟨rfl,H5,μ5,hN.then m1 hf hN5,hW5.gone⟩
end Go.Am
end

section
namespace Go.Am
set_option maxRecDepth 100000
theorem pi0 (s:Bs) (hs:s.length < 2 ^ 39):J prog gz0 [.bp (.e 0) 0,vS (bS s)] [aT0 0 (.c .nilIface) (.lst old4)] (·=.ret (vS (bS (repB s))) [.gone]):=by
 intro H μ us w hv hW
 have r0:=hv.2 0 _ rfl
 have r1:=hv.2 1 _ rfl
 rw [mj0 hv]
 generalize us.getD 0 undef=p at r0
 generalize us.getD 1 undef=q at r1
 cases r1
 cases r0 with
 | bp _ _ blk hμ =>
 obtain ⟨c,hc⟩:∃ c,Go.Proofs.Tryz.f127.body=some c:=⟨_,rfl⟩
 have hn:(Go.Proofs.Tryz.f127.name == "runtime.NumGoroutine")=false:=by kernel_rfl
 have hn':¬ Go.Proofs.Tryz.f127.name = "runtime.NumGoroutine":=by simpa using hn
 have hrun:(callFunc 127 #[.pointer (some ⟨blk.b,0,none⟩),.string (bS s)]).run prog w=.ok (.enter 127 #[.pointer (some ⟨blk.b,0,none⟩),.string (bS s)]) w:=by simp [callFunc,Go.Proofs.Tryz.func127,hn',hc]
 unfold dG0
 rw [hrun]
 refine Calls.mono (og0 s hs hW hμ) ?_
 rintro e w' ⟨rfl,H',μ',hN,hW'⟩
 refine ⟨_,H',μ',rfl,⟨_,rfl,.c _⟩,hN,hW',by simp,fun j o hj ho hg=>?_⟩
 match j,ho with
 | 0,ho=>injection ho with ho; exact absurd ho.symm hg
attribute [local irreducible] vc vcIs vcI vcOp vcD vcDp vcDR vcT vcAR bY0 aX0 panD neG ne pv J bJ0 bP0 b20 bc0 evK evsK nthK objK boxK rowK bC0 intK strK aggK fnK ifcK ay0 az0 ldK ldaK iaK srcK stK appK appD b40 pvK bD0 aV0 bO0 bs0 slAV bI0
theorem lX0:J prog eS0 [.lst old4] [] (·=.ret (.bp (.e 0) 0) [aT0 0 (.c .nilIface) (.lst old4)]):=by
 refine at0 is0 (by simp) ?_
 refine rS5 @es0.eq_1 @aT0.eq_1 @hpE.eq_1 @hpE.eq_2 @br0 ?_
 refine endR [(2,.bp (.l 11 0) 0)] [(.l 11 0,aT0 0 (.c .nilIface) (.lst old4))] (Wk.frz (.l 9 0) rfl (by simp [V.fz]) (by simp [Ob.fz,V.fz,aT0])) [.l 11 0] (by simp) ?_
 exact rT1 @aT0.eq_1
theorem sm0 (s:Bs):io0 s=[34]++repB s++[34]:=by
 unfold io0 repB
 congr 2
 congr 1
 funext c
 unfold jR0
 split
 ·rfl
 ·split <;> rfl
theorem nz0 (s:Bs) (hs:s.length < 2 ^ 38):Ret prog mB0 [vS (bS s)] (vS (bS (io0 s))):=by
 refine cZ0 pt0 (by simp) ?_
 refine rS1 @lE0.eq_1 ?_
 refine aa0 [] ?_
 simp
 have hO:=lX0
 try simp [ae0,ad0,aT0] at hO
 refine ab0 4 hO ?_
 refine rS0 ?_
 refine aa0 [.l 4 0] ?_
 simp
 have hO:=pi0 s (by omega)
 try simp [ae0,ad0,aT0] at hO
 refine ab0 6 hO ?_
 have hl:=oV0 s
 have h34:s.count 34<=s.length:=List.count_le_length
 have h92:s.count 92<=s.length:=List.count_le_length
 rw [pn0] at hl
 have hz:(bS (repB s)).size=(repB s).length:=rfl
 have q1:(⟨⟨[34]⟩⟩:ByteArray).size=1:=rfl
 have e:(⟨⟨[34]⟩⟩:ByteArray)++bS (repB s)++⟨⟨[34]⟩⟩=bS (io0 s):=by rw [sm0,<- fQ0,<- fQ0]
 exact rT3 hz q1 e
set_option maxHeartbeats 3200000 in
theorem expr_text (num:Int) (op:Int) (text:ByteArray) (slot:Int) (type:ByteArray) (at_:Int) (h:gt0 (sB text)=true):db0 (.mk 3 op num text slot type [] at_) (io0 (sB text)):=by
 intro bs hl
 have hlen:text.size<=256:=by
  have hp:=h
  unfold gt0 at hp
  simp only [Bool.and_eq_true,decide_eq_true_eq] at hp
  exact hp.1
 have hP:=ny0 text (by omega)
 rw [h] at hP
 have hQ:=nz0 (sB text) (by have:(sB text).length=text.size:=rfl; omega)
 rw [pj0] at hQ
 refine at0 aF0 (by simp [ae0]) ?_
 rw [Exq.V,Exq.ac0]
 simp +contextual (maxSteps:=2000000) (disch:=omega) [-Int.not_lt,-Int.not_le,-Nat.not_lt,-Nat.not_le,sx,aC0,ae0,hpE,Exq.kind,Exq.op,Exq.num,Exq.text,Exq.slot,Exq.type,Exq.args,Exq.at_]
 refine aa0 [] ?_
 simp
 have hO:=am0
 try simp [ae0,ad0,aT0] at hO
 refine ab0 23 hO ?_
 refine rS0 ?_
 refine ao0 ?_; simp; refine aj0 (hP) (by simp) ?_
 refine rS0 ?_
 refine aa0 [] ?_
 simp
 have hO:=am0
 try simp [ae0,ad0,aT0] at hO
 refine ab0 62 hO ?_
 refine rS0 ?_
 refine ao0 ?_; simp; refine aj0 (hQ) (by simp) ?_
 refine rS0 ?_
 refine aa0 [.e 0,.e 1] ?_
 simp
 have hO:=as0 bs [io0 (sB text)] (by simp only [List.flatten_cons,List.flatten_nil,List.append_nil]; omega) (by simp)
 try simp [ae0,ad0,aT0] at hO
 refine ab0 68 hO ?_
 refine rS0 ?_
 refine b10 [.l 68 0] ?_
 exact rT1 @ad0.eq_1
end Go.Am
end

section
namespace Go.Am
set_option maxRecDepth 100000
theorem shE_op {x:Exq} {t:Bs} (h:shE x=some t) (hk:x.kind=15):opOk x.op=true:=by
 obtain ⟨k,op,num,text,slot,type,args,at_⟩:=x
 have hk:k=15:=hk
 subst hk
 rw [shE.eq_def] at h
 dsimp only at h
 simp only [show ¬ (15:Int)=1 by decide,show ¬ (15:Int)=2 by decide,show ¬ (15:Int)=3 by decide,show ¬ (15:Int)=6 by decide,show ¬ (15:Int)=7 by decide,show ¬ (15:Int)=12 by decide,show ¬ ((15:Int)=13\/(15:Int)=14) by decide,if_false,if_true] at h
 split at h
 all_goals first
  | (cases h; done)
  | skip
 all_goals
  split at h
  ·assumption
  ·cases h
theorem putsE:∀ (m:Nat) (x:Exq),SizeOf.sizeOf x < m->plE x=true->∀ {t:Bs},shE x=some t->db0 x t:=by
 intro m
 induction m with
 | zero=>intro x h; omega
 | succ m ih =>
  intro x hm hp t h
  obtain ⟨k,op,num,text,slot,type,args,at_⟩:=x
  rw [plE,Bool.and_eq_true,decide_eq_true_eq] at hp
  obtain ⟨⟨p2,p3⟩,p4⟩:=hp
  have hsz:∀ y ∈ args,SizeOf.sizeOf y < m:=fun y hy=>by
   have:=List.sizeOf_lt_of_mem hy
   simp only [Exq.mk.sizeOf_spec] at hm; omega
  have hpl:=qN0 p4
  rw [shE.eq_def] at h
  dsimp only at h
  by_cases k1:k=1
  ·subst k1
   rw [if_pos rfl] at h
   split at h
   ·rename_i hc; obtain ⟨rfl,hc2⟩:=hc
    injection h with h; subst h
    exact expr_int num op text slot type at_ hc2 p2
   ·cases h
  rw [if_neg k1] at h
  by_cases k2:k=2
  ·subst k2
   rw [if_pos rfl] at h
   split at h
   ·rename_i hc; obtain ⟨rfl,hc2⟩:=hc
    injection h with h; subst h
    rcases hc2 with rfl | rfl
    ·exact rZ0 op text slot type at_
    ·exact r00 op text slot type at_
   ·cases h
  rw [if_neg k2] at h
  by_cases k3:k=3
  ·subst k3
   rw [if_pos rfl] at h
   split at h
   ·rename_i hc; obtain ⟨rfl,hc2⟩:=hc
    injection h with h; subst h
    exact expr_text num op text slot type at_ hc2
   ·cases h
  rw [if_neg k3] at h
  by_cases k6:k=6
  ·subst k6
   rw [if_pos rfl] at h
   split at h
   ·rename_i hc; obtain ⟨rfl,hc2⟩:=hc
    injection h with h; subst h
    exact expr_name num op text slot type at_ hc2
   ·cases h
  rw [if_neg k6] at h
  by_cases k7:k=7
  ·subst k7
   rw [if_pos rfl] at h
   split at h
   ·rename_i hc
    cases hL:shL args with
    | none=>rw [hL] at h; cases h
    | some ts =>
     rw [hL] at h
     simp only [Option.map_some,Option.some.injEq] at h
     subst h
     obtain ⟨g1,g2⟩:=lz0 hL
     exact expr_call num op text slot type at_ args ts hc g1 p3 fun i hi=>ih _ (hsz _ (List.getElem_mem hi)) (hpl _ (List.getElem_mem hi)) (g2 i hi (by omega))
   ·cases h
  rw [if_neg k7] at h
  have parts:∀ {ts:List Bs},shL args=some ts->ts.length=args.length/\∀ i (hi:i < args.length) (hi2:i < ts.length),db0 args[i] ts[i]/\shE args[i]=some ts[i]:=fun hL=>by
   obtain ⟨g1,g2⟩:=lz0 hL
   exact ⟨g1,fun i hi hi2=>⟨ih _ (hsz _ (List.getElem_mem hi)) (hpl _ (List.getElem_mem hi)) (g2 i hi hi2),g2 i hi hi2⟩⟩
  by_cases k12:k=12
  ·subst k12
   rw [if_pos rfl] at h
   split at h
   all_goals first
    | (cases h; done)
    | skip
   rename_i x y a b hL
   injection h with h; subst h
   obtain ⟨_,g⟩:=parts hL
   exact expr_at num op text slot type at_ x y a b (g 0 (by simp) (by simp)).1 (g 1 (by simp) (by simp)).1
  rw [if_neg k12] at h
  by_cases k13:k=13\/k=14
  ·rw [if_pos k13] at h
   split at h
   all_goals first
    | (cases h; done)
    | skip
   rename_i x a hL
   injection h with h; subst h
   obtain ⟨_,g⟩:=parts hL
   rcases k13 with rfl | rfl
   ·exact qw0 num op text slot type at_ x a (g 0 (by simp) (by simp)).1
   ·exact qx0 num op text slot type at_ x a (g 0 (by simp) (by simp)).1
  rw [if_neg k13] at h
  by_cases k15:k=15
  ·subst k15
   rw [if_pos rfl] at h
   split at h
   all_goals first
    | (cases h; done)
    | skip
   rename_i x y a b hL
   split at h
   ·rename_i hop
    injection h with h; subst h
    obtain ⟨_,g⟩:=parts hL
    exact expr_bin num op text slot type at_ x y a b hop (g 0 (by simp) (by simp)).1 (g 1 (by simp) (by simp)).1 (shE_op (g 0 (by simp) (by simp)).2) (shE_op (g 1 (by simp) (by simp)).2)
   ·cases h
  ·rw [if_neg k15] at h; cases h
end Go.Am
end

section
namespace Go.Am
set_option maxRecDepth 100000
attribute [local irreducible] vc vcIs vcI vcOp vcD vcDp vcDR vcT vcAR bY0 aX0 panD neG ne pv J bJ0 bP0 b20 bc0 evK evsK nthK objK boxK rowK bC0 intK strK aggK fnK ifcK ay0 az0 ldK ldaK iaK srcK stK appK appD b40 pvK bD0 aV0 bO0 bs0 slAV bI0
def mn0 (n:Nat) (x:Stm) (t:Bs):Prop:=∀ bs:Bs,bs.length + t.length < 2 ^ 40->J prog dK0 [.bp (.e 0) 0,x.V,vS (bS (tabs n))] (ae0 69 bs) (·=.ret (.tup []) (ad0 69 (bs++t)))
def nn0 (n:Nat) (l:List Stm) (t:Bs):Prop:=∀ bs:Bs,bs.length + t.length < 2 ^ 40->J prog fx0 [.bp (.e 0) 0,.lst (l.map Stm.cells),vS (bS (tabs n))] (ae0 69 bs) (·=.ret (.tup []) (ad0 69 (bs++t)))
set_option maxHeartbeats 3200000 in
theorem st_let (name:ByteArray) (slot:Int) (state:Bool) (num:Int) (body els:List Stm) (at_:Int) (n:Nat) (x:Exq) (a:Bs) (h:cS0 (sB name)=true) (ha:db0 x a):mn0 n (.mk 1 name slot state num [x] body els at_) (e30++[32]++sB name++[32,61,32]++a++[59]):=by
 intro bs hl
 simp only [List.length_append,List.length_cons,List.length_nil,e30,dE0,e00,kwIf,co0,e20,kwTo,e40] at hl
 have hN:=g80 h
 rw [pj0] at hN
 refine at0 aD0 (by simp [ae0]) ?_
 rw [Stm.V,Stm.ac0]
 simp +contextual (maxSteps:=2000000) (disch:=omega) [-Int.not_lt,-Int.not_le,-Nat.not_lt,-Nat.not_le,sx,aA0,ae0,hpE,Stm.kind,Stm.name,Stm.slot,Stm.state,Stm.num,Stm.e,Stm.body,Stm.els,Stm.at_]
 refine aa0 [] ?_
 simp
 have hO:=am0
 try simp [ae0,ad0] at hO
 refine ab0 22 hO ?_
 refine rS0 ?_
 refine aa0 [] ?_
 simp
 have hO:=hN
 try simp [ae0,ad0] at hO
 refine ab0 31 hO ?_
 refine rS0 ?_
 refine aa0 [.e 0,.e 1] ?_
 simp
 have hO:=as0 (bs) [[108,101,116,32],sB name,[32,61,32]] (by simp only [List.flatten_cons,List.flatten_nil,List.append_nil,List.length_append,List.length_cons,List.length_nil]; omega) (by simp)
 try simp [ae0,ad0] at hO
 refine ab0 33 hO ?_
 refine rS0 ?_
 refine aa0 [.e 0,.l 33 0] ?_
 simp
 have hO:=ha (bs++[[108,101,116,32],sB name,[32,61,32]].flatten) (by simp only [List.flatten_cons,List.flatten_nil,List.append_nil,List.length_append,List.length_cons,List.length_nil]; omega)
 try simp [ae0,ad0] at hO
 refine ab0 91 hO ?_
 refine rS0 ?_
 refine aa0 [.e 0,.l 91 0] ?_
 simp
 have hO:=as0 (bs++[[108,101,116,32],sB name,[32,61,32]].flatten++a) [[59]] (by simp only [List.flatten_cons,List.flatten_nil,List.append_nil,List.length_append,List.length_cons,List.length_nil]; omega) (by simp)
 try simp [ae0,ad0] at hO
 refine ab0 96 hO ?_
 refine rS0 ?_
 refine b10 [.l 96 0] ?_
 exact rT9 @ad0.eq_1 @e30.eq_1 @dE0.eq_1 @e00.eq_1 @kwIf.eq_1 @co0.eq_1 @e20.eq_1 @kwTo.eq_1 @e40.eq_1
set_option maxHeartbeats 3200000 in
theorem st_set1 (name:ByteArray) (slot:Int) (state:Bool) (num:Int) (body els:List Stm) (at_:Int) (n:Nat) (x:Exq) (a:Bs) (h:cS0 (sB name)=true) (ha:db0 x a):mn0 n (.mk 2 name slot state num [x] body els at_) (dE0++[32]++sB name++[32,61,32]++a++[59]):=by
 intro bs hl
 simp only [List.length_append,List.length_cons,List.length_nil,e30,dE0,e00,kwIf,co0,e20,kwTo,e40] at hl
 have hN:=g80 h
 rw [pj0] at hN
 refine at0 aD0 (by simp [ae0]) ?_
 rw [Stm.V,Stm.ac0]
 simp +contextual (maxSteps:=2000000) (disch:=omega) [-Int.not_lt,-Int.not_le,-Nat.not_lt,-Nat.not_le,sx,aA0,ae0,hpE,Stm.kind,Stm.name,Stm.slot,Stm.state,Stm.num,Stm.e,Stm.body,Stm.els,Stm.at_]
 refine aa0 [] ?_
 simp
 have hO:=am0
 try simp [ae0,ad0] at hO
 refine ab0 22 hO ?_
 refine rS0 ?_
 refine aa0 [] ?_
 simp
 have hO:=hN
 try simp [ae0,ad0] at hO
 refine ab0 39 hO ?_
 refine rS0 ?_
 refine aa0 [.e 0,.e 1] ?_
 simp
 have hO:=as0 (bs) [[115,101,116,32],sB name] (by simp only [List.flatten_cons,List.flatten_nil,List.append_nil,List.length_append,List.length_cons,List.length_nil]; omega) (by simp)
 try simp [ae0,ad0] at hO
 refine ab0 41 hO ?_
 refine rS0 ?_
 refine aa0 [.e 0,.l 41 0] ?_
 simp
 have hO:=as0 (bs++[[115,101,116,32],sB name].flatten) [[32,61,32]] (by simp only [List.flatten_cons,List.flatten_nil,List.append_nil,List.length_append,List.length_cons,List.length_nil]; omega) (by simp)
 try simp [ae0,ad0] at hO
 refine ab0 58 hO ?_
 refine rS0 ?_
 refine aa0 [.e 0,.l 58 0] ?_
 simp
 have hO:=ha (bs++[[115,101,116,32],sB name].flatten++[[32,61,32]].flatten) (by simp only [List.flatten_cons,List.flatten_nil,List.append_nil,List.length_append,List.length_cons,List.length_nil]; omega)
 try simp [ae0,ad0] at hO
 refine ab0 91 hO ?_
 refine rS0 ?_
 refine aa0 [.e 0,.l 91 0] ?_
 simp
 have hO:=as0 (bs++[[115,101,116,32],sB name].flatten++[[32,61,32]].flatten++a) [[59]] (by simp only [List.flatten_cons,List.flatten_nil,List.append_nil,List.length_append,List.length_cons,List.length_nil]; omega) (by simp)
 try simp [ae0,ad0] at hO
 refine ab0 96 hO ?_
 refine rS0 ?_
 refine b10 [.l 96 0] ?_
 exact rT9 @ad0.eq_1 @e30.eq_1 @dE0.eq_1 @e00.eq_1 @kwIf.eq_1 @co0.eq_1 @e20.eq_1 @kwTo.eq_1 @e40.eq_1
set_option maxHeartbeats 3200000 in
theorem st_set2 (name:ByteArray) (slot:Int) (state:Bool) (num:Int) (body els:List Stm) (at_:Int) (n:Nat) (x y:Exq) (a c:Bs) (h:cS0 (sB name)=true) (ha:db0 x a) (hc:db0 y c):mn0 n (.mk 2 name slot state num [x,y] body els at_) (dE0++[32]++sB name++[91]++a++[93]++[32,61,32]++c++[59]):=by
 intro bs hl
 simp only [List.length_append,List.length_cons,List.length_nil,e30,dE0,e00,kwIf,co0,e20,kwTo,e40] at hl
 have hN:=g80 h
 rw [pj0] at hN
 refine at0 aD0 (by simp [ae0]) ?_
 rw [Stm.V,Stm.ac0]
 simp +contextual (maxSteps:=2000000) (disch:=omega) [-Int.not_lt,-Int.not_le,-Nat.not_lt,-Nat.not_le,sx,aA0,ae0,hpE,Stm.kind,Stm.name,Stm.slot,Stm.state,Stm.num,Stm.e,Stm.body,Stm.els,Stm.at_]
 refine aa0 [] ?_
 simp
 have hO:=am0
 try simp [ae0,ad0] at hO
 refine ab0 22 hO ?_
 refine rS0 ?_
 refine aa0 [] ?_
 simp
 have hO:=hN
 try simp [ae0,ad0] at hO
 refine ab0 39 hO ?_
 refine rS0 ?_
 refine aa0 [.e 0,.e 1] ?_
 simp
 have hO:=as0 (bs) [[115,101,116,32],sB name] (by simp only [List.flatten_cons,List.flatten_nil,List.append_nil,List.length_append,List.length_cons,List.length_nil]; omega) (by simp)
 try simp [ae0,ad0] at hO
 refine ab0 41 hO ?_
 refine rS0 ?_
 refine aa0 [.e 0,.l 41 0] ?_
 simp
 have hO:=as0 (bs++[[115,101,116,32],sB name].flatten) [[91]] (by simp only [List.flatten_cons,List.flatten_nil,List.append_nil,List.length_append,List.length_cons,List.length_nil]; omega) (by simp)
 try simp [ae0,ad0] at hO
 refine ab0 46 hO ?_
 refine rS0 ?_
 refine aa0 [.e 0,.l 46 0] ?_
 simp
 have hO:=ha (bs++[[115,101,116,32],sB name].flatten++[[91]].flatten) (by simp only [List.flatten_cons,List.flatten_nil,List.append_nil,List.length_append,List.length_cons,List.length_nil]; omega)
 try simp [ae0,ad0] at hO
 refine ab0 52 hO ?_
 refine rS0 ?_
 refine aa0 [.e 0,.l 52 0] ?_
 simp
 have hO:=as0 (bs++[[115,101,116,32],sB name].flatten++[[91]].flatten++a) [[93]] (by simp only [List.flatten_cons,List.flatten_nil,List.append_nil,List.length_append,List.length_cons,List.length_nil]; omega) (by simp)
 try simp [ae0,ad0] at hO
 refine ab0 55 hO ?_
 refine rS0 ?_
 refine aa0 [.e 0,.l 55 0] ?_
 simp
 have hO:=as0 (bs++[[115,101,116,32],sB name].flatten++[[91]].flatten++a++[[93]].flatten) [[32,61,32]] (by simp only [List.flatten_cons,List.flatten_nil,List.append_nil,List.length_append,List.length_cons,List.length_nil]; omega) (by simp)
 try simp [ae0,ad0] at hO
 refine ab0 58 hO ?_
 refine rS0 ?_
 refine aa0 [.e 0,.l 58 0] ?_
 simp
 have hO:=hc (bs++[[115,101,116,32],sB name].flatten++[[91]].flatten++a++[[93]].flatten++[[32,61,32]].flatten) (by simp only [List.flatten_cons,List.flatten_nil,List.append_nil,List.length_append,List.length_cons,List.length_nil]; omega)
 try simp [ae0,ad0] at hO
 refine ab0 91 hO ?_
 refine rS0 ?_
 refine aa0 [.e 0,.l 91 0] ?_
 simp
 have hO:=as0 (bs++[[115,101,116,32],sB name].flatten++[[91]].flatten++a++[[93]].flatten++[[32,61,32]].flatten++c) [[59]] (by simp only [List.flatten_cons,List.flatten_nil,List.append_nil,List.length_append,List.length_cons,List.length_nil]; omega) (by simp)
 try simp [ae0,ad0] at hO
 refine ab0 96 hO ?_
 refine rS0 ?_
 refine b10 [.l 96 0] ?_
 exact rT9 @ad0.eq_1 @e30.eq_1 @dE0.eq_1 @e00.eq_1 @kwIf.eq_1 @co0.eq_1 @e20.eq_1 @kwTo.eq_1 @e40.eq_1
set_option maxHeartbeats 3200000 in
theorem st_del (name:ByteArray) (slot:Int) (state:Bool) (num:Int) (body els:List Stm) (at_:Int) (n:Nat) (x:Exq) (a:Bs) (h:cS0 (sB name)=true) (ha:db0 x a):mn0 n (.mk 3 name slot state num [x] body els at_) (e00++[32]++sB name++[91]++a++[93,59]):=by
 intro bs hl
 simp only [List.length_append,List.length_cons,List.length_nil,e30,dE0,e00,kwIf,co0,e20,kwTo,e40] at hl
 have hN:=g80 h
 rw [pj0] at hN
 refine at0 aD0 (by simp [ae0]) ?_
 rw [Stm.V,Stm.ac0]
 simp +contextual (maxSteps:=2000000) (disch:=omega) [-Int.not_lt,-Int.not_le,-Nat.not_lt,-Nat.not_le,sx,aA0,ae0,hpE,Stm.kind,Stm.name,Stm.slot,Stm.state,Stm.num,Stm.e,Stm.body,Stm.els,Stm.at_]
 refine aa0 [] ?_
 simp
 have hO:=am0
 try simp [ae0,ad0] at hO
 refine ab0 22 hO ?_
 refine rS0 ?_
 refine aa0 [] ?_
 simp
 have hO:=hN
 try simp [ae0,ad0] at hO
 refine ab0 64 hO ?_
 refine rS0 ?_
 refine aa0 [.e 0,.e 1] ?_
 simp
 have hO:=as0 (bs) [[100,101,108,32],sB name,[91]] (by simp only [List.flatten_cons,List.flatten_nil,List.append_nil,List.length_append,List.length_cons,List.length_nil]; omega) (by simp)
 try simp [ae0,ad0] at hO
 refine ab0 66 hO ?_
 refine rS0 ?_
 refine aa0 [.e 0,.l 66 0] ?_
 simp
 have hO:=ha (bs++[[100,101,108,32],sB name,[91]].flatten) (by simp only [List.flatten_cons,List.flatten_nil,List.append_nil,List.length_append,List.length_cons,List.length_nil]; omega)
 try simp [ae0,ad0] at hO
 refine ab0 91 hO ?_
 refine rS0 ?_
 refine aa0 [.e 0,.l 91 0] ?_
 simp
 have hO:=as0 (bs++[[100,101,108,32],sB name,[91]].flatten++a) [[93,59]] (by simp only [List.flatten_cons,List.flatten_nil,List.append_nil,List.length_append,List.length_cons,List.length_nil]; omega) (by simp)
 try simp [ae0,ad0] at hO
 refine ab0 101 hO ?_
 refine rS0 ?_
 refine b10 [.l 101 0] ?_
 exact rT9 @ad0.eq_1 @e30.eq_1 @dE0.eq_1 @e00.eq_1 @kwIf.eq_1 @co0.eq_1 @e20.eq_1 @kwTo.eq_1 @e40.eq_1
set_option maxHeartbeats 3200000 in
theorem st_if0 (name:ByteArray) (slot:Int) (state:Bool) (num:Int) (body:List Stm) (at_:Int) (n:Nat) (x:Exq) (a b:Bs) (ha:db0 x a) (hb:nn0 n body b):mn0 n (.mk 4 name slot state num [x] body [] at_) (kwIf++[32]++a++[32]++b):=by
 intro bs hl
 simp only [List.length_append,List.length_cons,List.length_nil,e30,dE0,e00,kwIf,co0,e20,kwTo,e40] at hl
 refine at0 aD0 (by simp [ae0]) ?_
 rw [Stm.V,Stm.ac0]
 simp +contextual (maxSteps:=2000000) (disch:=omega) [-Int.not_lt,-Int.not_le,-Nat.not_lt,-Nat.not_le,sx,aA0,ae0,hpE,Stm.kind,Stm.name,Stm.slot,Stm.state,Stm.num,Stm.e,Stm.body,Stm.els,Stm.at_]
 refine aa0 [] ?_
 simp
 have hO:=am0
 try simp [ae0,ad0] at hO
 refine ab0 22 hO ?_
 refine rS0 ?_
 refine aa0 [.e 0,.e 1] ?_
 simp
 have hO:=as0 (bs) [[105,102,32]] (by simp only [List.flatten_cons,List.flatten_nil,List.append_nil,List.length_append,List.length_cons,List.length_nil]; omega) (by simp)
 try simp [ae0,ad0] at hO
 refine ab0 71 hO ?_
 refine rS0 ?_
 refine aa0 [.e 0,.l 71 0] ?_
 simp
 have hO:=ha (bs++[[105,102,32]].flatten) (by simp only [List.flatten_cons,List.flatten_nil,List.append_nil,List.length_append,List.length_cons,List.length_nil]; omega)
 try simp [ae0,ad0] at hO
 refine ab0 91 hO ?_
 refine rS0 ?_
 refine aa0 [.e 0,.l 91 0] ?_
 simp
 have hO:=as0 (bs++[[105,102,32]].flatten++a) [[32]] (by simp only [List.flatten_cons,List.flatten_nil,List.append_nil,List.length_append,List.length_cons,List.length_nil]; omega) (by simp)
 try simp [ae0,ad0] at hO
 refine ab0 107 hO ?_
 refine rS0 ?_
 refine aa0 [.e 0,.l 107 0] ?_
 simp
 have hO:=hb (bs++[[105,102,32]].flatten++a++[[32]].flatten) (by simp only [List.flatten_cons,List.flatten_nil,List.append_nil,List.length_append,List.length_cons,List.length_nil]; omega)
 try simp [ae0,ad0] at hO
 refine ab0 112 hO ?_
 refine rS0 ?_
 refine b10 [.l 112 0] ?_
 exact rT9 @ad0.eq_1 @e30.eq_1 @dE0.eq_1 @e00.eq_1 @kwIf.eq_1 @co0.eq_1 @e20.eq_1 @kwTo.eq_1 @e40.eq_1
set_option maxHeartbeats 3200000 in
theorem st_if1 (name:ByteArray) (slot:Int) (state:Bool) (num:Int) (body els:List Stm) (at_:Int) (n:Nat) (x:Exq) (a b c:Bs) (hne:els ≠ []) (ha:db0 x a) (hb:nn0 n body b) (hc:nn0 n els c):mn0 n (.mk 4 name slot state num [x] body els at_) (kwIf++[32]++a++[32]++b++([32]++co0++[32]++c)):=by
 intro bs hl
 have hpos:(0:Int) < els.length:=by have:=List.length_pos_iff.2 hne; omega
 simp only [List.length_append,List.length_cons,List.length_nil,e30,dE0,e00,kwIf,co0,e20,kwTo,e40] at hl
 refine at0 aD0 (by simp [ae0]) ?_
 rw [Stm.V,Stm.ac0]
 simp +contextual (maxSteps:=2000000) (disch:=omega) [-Int.not_lt,-Int.not_le,-Nat.not_lt,-Nat.not_le,sx,aA0,ae0,hpE,Stm.kind,Stm.name,Stm.slot,Stm.state,Stm.num,Stm.e,Stm.body,Stm.els,Stm.at_]
 refine aa0 [] ?_
 simp
 have hO:=am0
 try simp [ae0,ad0] at hO
 refine ab0 22 hO ?_
 refine rS0 ?_
 refine aa0 [.e 0,.e 1] ?_
 simp
 have hO:=as0 (bs) [[105,102,32]] (by simp only [List.flatten_cons,List.flatten_nil,List.append_nil,List.length_append,List.length_cons,List.length_nil]; omega) (by simp)
 try simp [ae0,ad0] at hO
 refine ab0 71 hO ?_
 refine rS0 ?_
 refine aa0 [.e 0,.l 71 0] ?_
 simp
 have hO:=ha (bs++[[105,102,32]].flatten) (by simp only [List.flatten_cons,List.flatten_nil,List.append_nil,List.length_append,List.length_cons,List.length_nil]; omega)
 try simp [ae0,ad0] at hO
 refine ab0 91 hO ?_
 refine rS0 ?_
 refine aa0 [.e 0,.l 91 0] ?_
 simp
 have hO:=as0 (bs++[[105,102,32]].flatten++a) [[32]] (by simp only [List.flatten_cons,List.flatten_nil,List.append_nil,List.length_append,List.length_cons,List.length_nil]; omega) (by simp)
 try simp [ae0,ad0] at hO
 refine ab0 107 hO ?_
 refine rS0 ?_
 refine aa0 [.e 0,.l 107 0] ?_
 simp
 have hO:=hb (bs++[[105,102,32]].flatten++a++[[32]].flatten) (by simp only [List.flatten_cons,List.flatten_nil,List.append_nil,List.length_append,List.length_cons,List.length_nil]; omega)
 try simp [ae0,ad0] at hO
 refine ab0 112 hO ?_
 refine rS1 hpos ?_
 refine aa0 [.e 0,.l 112 0] ?_
 simp
 have hO:=as0 (bs++[[105,102,32]].flatten++a++[[32]].flatten++b) [[32,101,108,115,101,32]] (by simp only [List.flatten_cons,List.flatten_nil,List.append_nil,List.length_append,List.length_cons,List.length_nil]; omega) (by simp)
 try simp [ae0,ad0] at hO
 refine ab0 124 hO ?_
 refine rS0 ?_
 refine aa0 [.e 0,.l 124 0] ?_
 simp
 have hO:=hc (bs++[[105,102,32]].flatten++a++[[32]].flatten++b++[[32,101,108,115,101,32]].flatten) (by simp only [List.flatten_cons,List.flatten_nil,List.append_nil,List.length_append,List.length_cons,List.length_nil]; omega)
 try simp [ae0,ad0] at hO
 refine ab0 129 hO ?_
 refine rS0 ?_
 refine b10 [.l 129 0] ?_
 exact rT9 @ad0.eq_1 @e30.eq_1 @dE0.eq_1 @e00.eq_1 @kwIf.eq_1 @co0.eq_1 @e20.eq_1 @kwTo.eq_1 @e40.eq_1
set_option maxHeartbeats 3200000 in
theorem st_for (name:ByteArray) (slot:Int) (state:Bool) (num:Int) (body els:List Stm) (at_:Int) (n:Nat) (x:Exq) (a b:Bs) (h:cS0 (sB name)=true) (ha:db0 x a) (hb:nn0 n body b):mn0 n (.mk 5 name slot state num [x] body els at_) (e20++[32]++sB name++[32]++kwTo++[32]++a++[32]++b):=by
 intro bs hl
 simp only [List.length_append,List.length_cons,List.length_nil,e30,dE0,e00,kwIf,co0,e20,kwTo,e40] at hl
 have hN:=g80 h
 rw [pj0] at hN
 refine at0 aD0 (by simp [ae0]) ?_
 rw [Stm.V,Stm.ac0]
 simp +contextual (maxSteps:=2000000) (disch:=omega) [-Int.not_lt,-Int.not_le,-Nat.not_lt,-Nat.not_le,sx,aA0,ae0,hpE,Stm.kind,Stm.name,Stm.slot,Stm.state,Stm.num,Stm.e,Stm.body,Stm.els,Stm.at_]
 refine aa0 [] ?_
 simp
 have hO:=am0
 try simp [ae0,ad0] at hO
 refine ab0 22 hO ?_
 refine rS0 ?_
 refine aa0 [] ?_
 simp
 have hO:=hN
 try simp [ae0,ad0] at hO
 refine ab0 77 hO ?_
 refine rS0 ?_
 refine aa0 [.e 0,.e 1] ?_
 simp
 have hO:=as0 (bs) [[102,111,114,32],sB name,[32,116,111,32]] (by simp only [List.flatten_cons,List.flatten_nil,List.append_nil,List.length_append,List.length_cons,List.length_nil]; omega) (by simp)
 try simp [ae0,ad0] at hO
 refine ab0 79 hO ?_
 refine rS0 ?_
 refine aa0 [.e 0,.l 79 0] ?_
 simp
 have hO:=ha (bs++[[102,111,114,32],sB name,[32,116,111,32]].flatten) (by simp only [List.flatten_cons,List.flatten_nil,List.append_nil,List.length_append,List.length_cons,List.length_nil]; omega)
 try simp [ae0,ad0] at hO
 refine ab0 91 hO ?_
 refine rS0 ?_
 refine aa0 [.e 0,.l 91 0] ?_
 simp
 have hO:=as0 (bs++[[102,111,114,32],sB name,[32,116,111,32]].flatten++a) [[32]] (by simp only [List.flatten_cons,List.flatten_nil,List.append_nil,List.length_append,List.length_cons,List.length_nil]; omega) (by simp)
 try simp [ae0,ad0] at hO
 refine ab0 107 hO ?_
 refine rS0 ?_
 refine aa0 [.e 0,.l 107 0] ?_
 simp
 have hO:=hb (bs++[[102,111,114,32],sB name,[32,116,111,32]].flatten++a++[[32]].flatten) (by simp only [List.flatten_cons,List.flatten_nil,List.append_nil,List.length_append,List.length_cons,List.length_nil]; omega)
 try simp [ae0,ad0] at hO
 refine ab0 112 hO ?_
 refine rS0 ?_
 refine b10 [.l 112 0] ?_
 exact rT9 @ad0.eq_1 @e30.eq_1 @dE0.eq_1 @e00.eq_1 @kwIf.eq_1 @co0.eq_1 @e20.eq_1 @kwTo.eq_1 @e40.eq_1
set_option maxHeartbeats 3200000 in
theorem st_ret (name:ByteArray) (slot:Int) (state:Bool) (num:Int) (body els:List Stm) (at_:Int) (n:Nat) (x:Exq) (a:Bs) (ha:db0 x a):mn0 n (.mk 6 name slot state num [x] body els at_) (e40++[32]++a++[59]):=by
 intro bs hl
 simp only [List.length_append,List.length_cons,List.length_nil,e30,dE0,e00,kwIf,co0,e20,kwTo,e40] at hl
 refine at0 aD0 (by simp [ae0]) ?_
 rw [Stm.V,Stm.ac0]
 simp +contextual (maxSteps:=2000000) (disch:=omega) [-Int.not_lt,-Int.not_le,-Nat.not_lt,-Nat.not_le,sx,aA0,ae0,hpE,Stm.kind,Stm.name,Stm.slot,Stm.state,Stm.num,Stm.e,Stm.body,Stm.els,Stm.at_]
 refine aa0 [] ?_
 simp
 have hO:=am0
 try simp [ae0,ad0] at hO
 refine ab0 22 hO ?_
 refine rS0 ?_
 refine aa0 [.e 0,.e 1] ?_
 simp
 have hO:=as0 (bs) [[114,101,116,32]] (by simp only [List.flatten_cons,List.flatten_nil,List.append_nil,List.length_append,List.length_cons,List.length_nil]; omega) (by simp)
 try simp [ae0,ad0] at hO
 refine ab0 84 hO ?_
 refine rS0 ?_
 refine aa0 [.e 0,.l 84 0] ?_
 simp
 have hO:=ha (bs++[[114,101,116,32]].flatten) (by simp only [List.flatten_cons,List.flatten_nil,List.append_nil,List.length_append,List.length_cons,List.length_nil]; omega)
 try simp [ae0,ad0] at hO
 refine ab0 91 hO ?_
 refine rS0 ?_
 refine aa0 [.e 0,.l 91 0] ?_
 simp
 have hO:=as0 (bs++[[114,101,116,32]].flatten++a) [[59]] (by simp only [List.flatten_cons,List.flatten_nil,List.append_nil,List.length_append,List.length_cons,List.length_nil]; omega) (by simp)
 try simp [ae0,ad0] at hO
 refine ab0 96 hO ?_
 refine rS0 ?_
 refine b10 [.l 96 0] ?_
 exact rT9 @ad0.eq_1 @e30.eq_1 @dE0.eq_1 @e00.eq_1 @kwIf.eq_1 @co0.eq_1 @e20.eq_1 @kwTo.eq_1 @e40.eq_1
theorem ne0 (n:Nat):tabs n++[9]=tabs (n + 1):=by unfold tabs; rw [List.replicate_succ']
theorem cF0 (n:Nat):(tabs n).length=n:=by simp [tabs]
theorem qr0 (n:Nat):nn0 n [] [123,125]:=by
 intro bs hl
 refine at0 eW0 (by simp [ae0]) ?_
 refine rS4 @c20.eq_1 @ae0.eq_1 @hpE.eq_1 @hpE.eq_2 ?_
 refine aa0 [.e 0,.e 1] ?_
 simp
 have hO:=as0 bs [[123,125]] (by simpa using hl) (by simp)
 try simp [ae0,ad0,cF0,Stm.V] at hO
 refine ab0 13 hO ?_
 refine rS0 ?_
 refine ax0 [.l 13 0] ?_
 exact rT1 @ad0.eq_1
set_option maxHeartbeats 1600000 in
theorem rP0 (n:Nat) (l:List Stm) (ts:List Bs) (hne:l ≠ []) (hlen:ts.length=l.length) (hx:l.length < 2 ^ 30) (h:∀ i (hi:i < l.length),mn0 (n + 1) l[i] (ts[i]'(by omega))) :
  nn0 n l ([123,10]++(ts.map fun a=>tabs (n + 1)++a++[10]).flatten++tabs n++[125]):=by
 intro bs hl
 generalize hM:(ts.map fun a=>tabs (n + 1)++a++[10])=M at *
 have hMl:M.length=l.length:=by rw [<- hM]; simp [hlen]
 have hMg:∀ i (hi:i < l.length),M[i]'(by omega)=tabs (n + 1)++ts[i]'(by omega)++[10]:=fun i hi=>by simp [<- hM]
 rw [<- b90,hMl] at hl ⊢
 have hpos:¬ (l.length:Int)=0:=by have:=List.length_pos_iff.2 hne; omega
 simp only [List.length_append,List.length_cons,List.length_nil,cF0] at hl
 have htl:=cF0 n
 refine at0 eW0 (by simp [ae0]) ?_
 refine rS6 @c20.eq_1 @ae0.eq_1 @hpE.eq_1 @hpE.eq_2 hpos hne ?_
 refine aa0 [.e 0,.e 1] ?_
 simp
 have hO:=as0 bs [[123,10]] (by simp; omega) (by simp)
 try simp [ae0,ad0,cF0,Stm.V] at hO
 refine ab0 16 hO ?_
 refine rS0 ?_
 refine bm0 l.length (fun i=>[(19,vI i),(18,vI l.length),(17,.lst (l.map Stm.cells)),(0,.bp (.e 0) 0),(2,vS (bS (tabs n)))])
  (fun i=>[(.e 0,.box [.self (.e 0) 69,.arr (.l 999 0) 0 (bs++[123,10]++aY0 M i).length]),(.l 999 0,.row 5 1 true ((bs++[123,10]++aY0 M i).map an0))])
  (Wk.rens (.l 16 0) (.l 999 0) rfl (by simp) (by simp [renF,bi0]) (by simp [renF,bR0,bi0])) ?_
 intro i hi
 by_cases hlt:i < l.length
 ·have hlt':(i:Int) < l.length:=by omega
  have hle:=h20 M (i + 1)
  rw [<- b90,hMl] at hle
  have hsucc:=eC0 (L:=M) (i:=i) (by omega)
  rw [hMg i hlt] at hsucc
  have hle2:=hle
  rw [hsucc] at hle2
  simp only [List.length_append,List.length_cons,List.length_nil,cF0] at hle2
  have hP:=h i hlt
  have hts:(bS (tabs n))++⟨⟨[9]⟩⟩=bS (tabs (n + 1)):=by rw [<- ne0]; exact fQ0 _ _
  refine rS4 hlt' hts @dn0 htl ?_
  refine aa0 [.e 0,.l 999 0] ?_
  simp
  have hO:=as0 (bs++[123,10]++aY0 M i) [tabs n,[9]] (by simp only [List.flatten_cons,List.flatten_nil,List.append_nil,List.length_append,List.length_cons,List.length_nil,cF0]; omega) (by simp)
  try simp [ae0,ad0,cF0,Stm.V] at hO
  refine ab0 26 hO ?_
  refine rS3 hts @dn0 htl ?_
  refine aa0 [.e 0,.l 26 0] ?_
  simp
  have hO:=hP (bs++[123,10]++aY0 M i++[tabs n,[9]].flatten) (by simp only [List.flatten_cons,List.flatten_nil,List.append_nil,List.length_append,List.length_cons,List.length_nil,cF0]; omega)
  try simp [ae0,ad0,cF0,Stm.V] at hO
  refine ab0 31 hO ?_
  refine rS0 ?_
  refine aa0 [.e 0,.l 31 0] ?_
  simp
  have hO:=as0 (bs++[123,10]++aY0 M i++[tabs n,[9]].flatten++ts[i]'(by omega)) [[10]] (by simp only [List.flatten_cons,List.flatten_nil,List.append_nil,List.length_append,List.length_cons,List.length_nil,cF0]; omega) (by simp)
  try simp [ae0,ad0,cF0,Stm.V] at hO
  refine ab0 34 hO ?_
  refine rS0 ?_
  have htt:∀ z:Bs,tabs n++9 :: z=tabs (n + 1)++z:=fun z=>by rw [<- ne0]; simp
  have hflat:bs++[123,10]++aY0 M i++[tabs n,[9]].flatten++(ts[i]'(by omega))++[10]=bs++[123,10]++aY0 M (i + 1):=by
   rw [hsucc,<- ne0]; simp
  have e1:=congrArg List.length hflat
  have e2:=congrArg (List.map an0) hflat
  simp [cF0] at e1 e2
  refine .of hlt (Wk.rens (.l 34 0) (.l 999 0) rfl (by simp) (by simp [renF]) (by simp [renF,bR0,e1,e2]))
 ·have hge':¬ (i:Int) < l.length:=by omega
  have:i=l.length:=by omega
  subst this
  refine rS1 hge' ?_
  refine aa0 [.e 0,.l 999 0] ?_
  simp
  have hO:=as0 (bs++[123,10]++aY0 M l.length) [tabs n,[125]] (by simp only [List.flatten_cons,List.flatten_nil,List.append_nil,List.length_append,List.length_cons,List.length_nil,cF0]; omega) (by simp)
  try simp [ae0,ad0,cF0,Stm.V] at hO
  refine ab0 39 hO ?_
  refine rS0 ?_
  refine b10 [.l 39 0] ?_
  exact rT2 @ad0.eq_1 @cF0
theorem rA0:∀ {n:Nat} {l:List Stm} {t:Bs},shT n l=some t->∃ ts:List Bs,ts.length=l.length/\(∀ i (hi:i < l.length) (hi2:i < ts.length),shS (n + 1) l[i]=some ts[i])/\t=(ts.map fun a=>tabs (n + 1)++a++[10]).flatten
 | n,[],t,h=>by rw [shT.eq_def] at h; simp at h; subst h; exact ⟨[],rfl,fun i hi=>by simp at hi,rfl⟩
 | n,x :: l,t,h=>by
  rw [shT.eq_def] at h
  dsimp only at h
  split at h
  ·rename_i a b h1 h2
   injection h with h; subst h
   obtain ⟨ts,g1,g2,g3⟩:=rA0 h2
   refine ⟨a :: ts,by simp [g1],fun i hi hi2=>?_,by simp [g3]⟩
   cases i with
   | zero=>exact h1
   | succ i=>exact g2 i (by simpa using hi) (by simpa using hi2)
  ·cases h
theorem oP0:∀ {l:List Stm},plB l=true->∀ x ∈ l,plS x=true
 | [],_,x,hx=>by simp at hx
 | y :: l,h,x,hx=>by
  rw [plB,Bool.and_eq_true] at h
  rcases List.mem_cons.1 hx with rfl | hx
  ·exact h.1
  ·exact oP0 h.2 x hx
theorem oT0 {n:Nat} {l:List Stm} {t:Bs} (hx:l.length < 2 ^ 30) (h:shB n l=some t) (hp:∀ x ∈ l,∀ {t:Bs},shS (n + 1) x=some t->mn0 (n + 1) x t):nn0 n l t:=by
 cases l with
 | nil=>rw [shB.eq_def] at h; simp at h; subst h; exact qr0 n
 | cons x l =>
  rw [o20] at h
  cases hT:shT n (x :: l) with
  | none=>rw [hT] at h; cases h
  | some q =>
   rw [hT] at h
   simp only [Option.map_some,Option.some.injEq] at h
   subst h
   obtain ⟨ts,g1,g2,rfl⟩:=rA0 hT
   exact rP0 n (x :: l) ts (by simp) g1 hx fun i hi=>hp _ (List.getElem_mem hi) (g2 i hi (by omega))
theorem putsS:∀ (m n:Nat) (x:Stm),SizeOf.sizeOf x < m->plS x=true->∀ {t:Bs},shS n x=some t->mn0 n x t:=by
 intro m
 induction m with
 | zero=>intro n x h; omega
 | succ m ih =>
  intro n x hm hp t h
  obtain ⟨k,name,slot,state,num,e,body,els,at_⟩:=x
  rw [plS] at hp
  simp only [Bool.and_eq_true,decide_eq_true_eq] at hp
  obtain ⟨⟨⟨p1,_,p2,p3⟩,p4⟩,p5⟩:=hp
  have hpl:=qN0 p1
  have hsz1:∀ y ∈ body,SizeOf.sizeOf y < m:=fun y hy=>by
   have:=List.sizeOf_lt_of_mem hy
   simp only [Stm.mk.sizeOf_spec] at hm; omega
  have hsz2:∀ y ∈ els,SizeOf.sizeOf y < m:=fun y hy=>by
   have:=List.sizeOf_lt_of_mem hy
   simp only [Stm.mk.sizeOf_spec] at hm; omega
  have hE:∀ {ts:List Bs},shL e=some ts->∀ i (hi:i < e.length) (hi2:i < ts.length),db0 e[i] ts[i]:=fun hL i hi hi2=>putsE _ _ (Nat.lt_succ_self _) (hpl _ (List.getElem_mem hi)) ((lz0 hL).2 i hi hi2)
  have hB:∀ {t:Bs},shB n body=some t->nn0 n body t:=fun h=>oT0 p2 h fun x hx t ht=>ih (n + 1) x (hsz1 x hx) (oP0 p4 x hx) ht
  have hC:∀ {t:Bs},shB n els=some t->nn0 n els t:=fun h=>oT0 p3 h fun x hx t ht=>ih (n + 1) x (hsz2 x hx) (oP0 p5 x hx) ht
  have one:∀ {a:Bs},shL e=some [a]->∃ x,e=[x]/\db0 x a:=fun {a} hL=>by
   obtain ⟨g1,_⟩:=lz0 hL
   have g:=hE hL
   match e,g1,g with
   | [x],_,g=>exact ⟨x,rfl,g 0 (by simp) (by simp)⟩
  have two:∀ {a b:Bs},shL e=some [a,b]->∃ x y,e=[x,y]/\db0 x a/\db0 y b:=fun {a b} hL=>by
   obtain ⟨g1,_⟩:=lz0 hL
   have g:=hE hL
   match e,g1,g with
   | [x,y],_,g=>exact ⟨x,y,rfl,g 0 (by simp) (by simp),g 1 (by simp) (by simp)⟩
  rw [shS.eq_def] at h
  dsimp only at h
  by_cases k1:k=1
  ·subst k1
   rw [if_pos rfl] at h
   split at h
   ·rename_i a hL
    obtain ⟨x,rfl,ha⟩:=one hL
    split at h
    ·rename_i hn; injection h with h; subst h
     exact st_let name slot state num body els at_ n x a hn ha
    ·cases h
   ·cases h
  rw [if_neg k1] at h
  by_cases k2:k=2
  ·subst k2
   rw [if_pos rfl] at h
   split at h
   ·rename_i a hL
    obtain ⟨x,rfl,ha⟩:=one hL
    split at h
    ·rename_i hn; injection h with h; subst h
     exact st_set1 name slot state num body els at_ n x a hn ha
    ·cases h
   ·rename_i a b hL
    obtain ⟨x,y,rfl,ha,hb⟩:=two hL
    split at h
    ·rename_i hn; injection h with h; subst h
     exact st_set2 name slot state num body els at_ n x y a b hn ha hb
    ·cases h
   ·cases h
  rw [if_neg k2] at h
  by_cases k3:k=3
  ·subst k3
   rw [if_pos rfl] at h
   split at h
   ·rename_i a hL
    obtain ⟨x,rfl,ha⟩:=one hL
    split at h
    ·rename_i hn; injection h with h; subst h
     exact st_del name slot state num body els at_ n x a hn ha
    ·cases h
   ·cases h
  rw [if_neg k3] at h
  by_cases k4:k=4
  ·subst k4
   rw [if_pos rfl] at h
   split at h
   ·rename_i a b c hL hb hc
    obtain ⟨x,rfl,ha⟩:=one hL
    injection h with h; subst h
    by_cases hne:els=[]
    ·subst hne
     rw [if_pos rfl,List.append_nil]
     exact st_if0 name slot state num body at_ n x a b ha (hB hb)
    ·rw [if_neg hne]
     exact st_if1 name slot state num body els at_ n x a b c hne ha (hB hb) (hC hc)
   ·cases h
  rw [if_neg k4] at h
  by_cases k5:k=5
  ·subst k5
   rw [if_pos rfl] at h
   split at h
   ·rename_i a b hL hb
    obtain ⟨x,rfl,ha⟩:=one hL
    split at h
    ·rename_i hn; injection h with h; subst h
     exact st_for name slot state num body els at_ n x a b hn ha (hB hb)
    ·cases h
   ·cases h
  rw [if_neg k5] at h
  by_cases k6:k=6
  ·subst k6
   rw [if_pos rfl] at h
   split at h
   ·rename_i a hL
    obtain ⟨x,rfl,ha⟩:=one hL
    injection h with h; subst h
    exact st_ret name slot state num body els at_ n x a ha
   ·cases h
  ·rw [if_neg k6] at h; cases h
attribute [local irreducible] vcF dfrS dEnd kC0 dJ JD
theorem IsTy.len {d:Nat} {s:Bs} (h:IsTy d s):s.length<=7 * d:=by
 induction h with
 | base h=>rcases gW0 h with rfl | rfl | rfl <;> simp [gB0,ek0,dk0]
 | list h ih=>simp; omega
 | mapI h ih=>simp [dl0]; omega
 | mapT h ih=>simp [cj0]; omega
theorem k80 {s:Bs} (h:qg0 s=true):s.length < 2 ^ 40:=by
 obtain ⟨d,hd,hr⟩:=tyB_is h
 have:=hd.len
 omega
theorem nc0 (x:Slo) {t:Bs} (h:gT0 x=some t):Ret prog mE0 [x.V] (vS (bS t)):=by
 unfold gT0 at h
 split at h
 ·rename_i hb
  rw [Bool.and_eq_true] at hb
  injection h with h
  have ha:x.name++⟨⟨[58,32]⟩⟩++x.type=bS t:=by
   rw [<- h,<- fQ0,<- fQ0]; try rfl
  have hn:x.name.size<=16:=pT0 hb.2
  have hty:x.type.size < 2 ^ 40:=k80 hb.1
  have h2:(⟨⟨[58,32]⟩⟩:ByteArray).size=2:=rfl
  have hn1:x.name.size + (⟨⟨[58,32]⟩⟩:ByteArray).size<=9223372036854775807:=by omega
  have hn2:x.name.size + (⟨⟨[58,32]⟩⟩:ByteArray).size + x.type.size<=9223372036854775807:=by omega
  have hn3:x.name.size<=9223372036854775807:=by omega
  refine at0 py0 (by simp) ?_
  refine rS2 @lH0.eq_1 @Slo.V.eq_1 ?_
  refine ao0 ?_; simp; refine aj0 (g90 (sB x.type) (k80 hb.1)) (by simp) ?_
  rw [hb.1]
  refine rS0 ?_
  refine aa0 [] ?_
  simp
  have hO:=am0
  try simp [ae0,ad0] at hO
  refine ab0 6 hO ?_
  refine rS0 ?_
  refine dd0 ?_; simp; refine aj0 ((show Ret prog eB0 [vS x.name] (vS x.name) from g80 hb.2)) (by simp) ?_
  refine rS4 ha hn1 hn2 hn3 ?_
  refine ax0 [] ?_
  exact rT0
 ·cases h
theorem put_nil (L:List Bs) (hl:L.flatten.length < 2 ^ 40) (hL:L.length < 2 ^ 30) :
  J prog cV0 [.bp (.e 0) 0,.lst (L.map aP0)] (aB0 69) (·=.ret (.tup []) (ae0 69 L.flatten)):=by
 rw [<- b90] at *
 refine at0 dD0 (by simp [aB0]) ?_
 refine rS4 @cA0.eq_1 @aB0.eq_1 @hpE.eq_1 @hpE.eq_2 ?_
 refine bm0 L.length (fun i=>[(8,vI i),(7,vI L.length),(6,.lst (L.map aP0)),(0,.bp (.e 0) 0)])
  (fun i=>[(.e 0,.box [.self (.e 0) 69,.arr (.l 999 0) 0 (aY0 L i).length]),(.l 999 0,.row 5 1 true ((aY0 L i).map an0))])
  (Wk.trans (Wk.subs (by simp) (by simp [bi0])) (Wk.rowB (b:=.e 0) (id:=.l 999 0) (off:=1) (ty:=5) (sz:=1) rfl rfl (by simp) (by simp))) ?_
 intro i hi
 by_cases hlt:i < L.length
 ·have hlt':(i:Int) < L.length:=by omega
  have hle:=h20 L (i + 1)
  rw [<- b90] at hle
  have hsucc:=eC0 hlt
  have hlen:(aY0 L (i + 1)).length=(aY0 L i).length + L[i].length:=by rw [hsucc,List.length_append]
  refine rS1 hlt' ?_
  refine aa0 [.e 0,.l 999 0] ?_
  simp
  have hO:=fa0 69 (aY0 L i) L[i] hT69 (by omega)
  try simp [ae0,ad0] at hO
  refine ab0 16 hO ?_
  refine rS0 ?_
  refine .of hlt (Wk.rens (.l 16 0) (.l 999 0) rfl (by simp) (by simp [renF,hsucc]) (by simp [renF,bR0,hsucc]))
 ·have hge':¬ (i:Int) < L.length:=by omega
  have:i=L.length:=by omega
  subst this
  refine rS1 hge' ?_
  refine b10 [.l 999 0] ?_
  exact rT1 @ae0.eq_1
theorem ip0 (s:Bs) (n:Int):JD prog true kE0 [.bp (.e 0) 0,.bp (.e 1) 0] [.box [vS (bS s)],.box [vI n]] none (·=.ret (.tup []) [.box [vS (bS s)],.box [vI n]]):=by
 refine JR_of nw0 (by simp) (by simp) ?_
 refine rS5 @jW0.eq_1 @hpE.eq_1 @hpE.eq_2 @pvV.eq_1 @pvV.eq_2 ?_
 refine b10 [] ?_
 exact rT0
theorem k50:∀ {l:List Slo} {t:Bs},b00 l=some t->∃ ts:List Bs,ts.length=l.length/\(∀ i (hi:i < l.length) (hi2:i < ts.length),gT0 l[i]=some ts[i])/\t=(ts.map fun a=>el0++[32]++a++[59,10]).flatten
 | [],t,h=>by rw [b00.eq_def] at h; simp at h; subst h; exact ⟨[],rfl,fun i hi=>by simp at hi,rfl⟩
 | x :: l,t,h=>by
  rw [b00.eq_def] at h
  dsimp only at h
  split at h
  ·rename_i a b ha hb
   injection h with h
   obtain ⟨ts,h1,h2,h3⟩:=k50 hb
   refine ⟨a :: ts,by simp [h1],fun i hi hi2=>?_,by simp [<- h,h3]⟩
   cases i with
   | zero=>exact ha
   | succ i=>exact h2 i (by simpa using hi) (by simpa using hi2)
  ·cases h
theorem na0:∀ {l:List Fun} {t:Bs},ez0 l=some t->∃ ts:List Bs,ts.length=l.length/\(∀ i (hi:i < l.length) (hi2:i < ts.length),nG0 l[i]=some ts[i])/\t=ts.flatten
 | [],t,h=>by rw [ez0.eq_def] at h; simp at h; subst h; exact ⟨[],rfl,fun i hi=>by simp at hi,rfl⟩
 | x :: l,t,h=>by
  rw [ez0.eq_def] at h
  dsimp only at h
  split at h
  ·rename_i a b ha hb
   injection h with h
   obtain ⟨ts,h1,h2,h3⟩:=na0 hb
   refine ⟨a :: ts,by simp [h1],fun i hi hi2=>?_,by simp [<- h,h3]⟩
   cases i with
   | zero=>exact ha
   | succ i=>exact h2 i (by simpa using hi) (by simpa using hi2)
  ·cases h
theorem gU0:∀ {l:List Slo} {ts:List Bs},ck0 l=some ts->ts.length=l.length/\(∀ i (hi:i < l.length) (hi2:i < ts.length),gT0 l[i]=some ts[i])
 | [],ts,h=>by rw [ck0.eq_def] at h; simp at h; subst h; exact ⟨rfl,fun i hi=>by simp at hi⟩
 | x :: l,ts,h=>by
  rw [ck0.eq_def] at h
  dsimp only at h
  split at h
  ·rename_i a b ha hb
   injection h with h
   obtain ⟨h1,h2⟩:=gU0 hb
   subst h
   refine ⟨by simp [h1],fun i hi hi2=>?_⟩
   cases i with
   | zero=>exact ha
   | succ i=>exact h2 i (by simpa using hi) (by simpa using hi2)
  ·cases h
structure Prg.tells (p:Prg):Prop where
 v:p.version < 9223372036854775808
 s:p.bN0.length < 2 ^ 30
 f:p.fns.length < 2 ^ 30
 ps:∀ f ∈ p.fns,f.params.length < 2 ^ 30
 b:∀ f ∈ p.fns,f.body.length < 2 ^ 30
 pl:∀ f ∈ p.fns,plB f.body=true
def nF0 (t:Bs):V:=if t.length<=16384 then .tup [vS (bS t),vI 0] else .tup [vS (bS []),vI 3]
set_option maxHeartbeats 3200000 in
theorem lV0 (p:Prg) (hp:p.tells) (hj:∀ f ∈ p.fns,∀ ps,ck0 f.params=some ps->J prog dw0 [.arr (.e 0) 0 ps.length,vS (bS [44,32])] [.row 9 1 true (ps.map aP0)] (·=.ret (vS (bS (sepB ps))) [.row 9 1 true (ps.map aP0)]))
  {t:Bs} (h:shP p=some t) (ht:t.length < 2 ^ 39):Ret prog kd0 [p.V] (nF0 t):=by
 unfold shP at h
 split at h
 ·rename_i hv
  split at h
  ·rename_i a b ha hb
   injection h with h
   obtain ⟨ss,hs1,hs2,hs3⟩:=k50 ha
   obtain ⟨fs,hf1,hf2,hf3⟩:=na0 hb
   have hnum:sc0 p.version=bS (numB p.version):=rfl
   have hlen:=congrArg List.length h
   simp only [List.length_append] at hlen
   have hp1:=hp.v
   refine J_dfr true pu0 (by simp) ?_
   refine rS4 @lO0.eq_1 @fj0 @fi0 @Prg.V.eq_1 ?_
   refine or0 rfl rfl (.trans (.ren (.l 2 0) 0 (by simp) (by simp) (E:=[(1,.bp (.l 1 0) 0),(2,.bp (.e 0) 0),(3,.bp (.l 3 0) 0)]) (h:=[(.l 1 0,.box p.cells),(.e 0,.box [vS (bS [])]),(.l 3 0,.box [vI 0])]) (cs':=[.bp (.e 0) 0,.bp (.l 3 0) 0]) (by simp [renF]) (by simp [renF,bR0]) (by simp [renF]))
    (.ren (.l 3 0) 1 (by simp) (by simp) (E:=[(1,.bp (.l 1 0) 0),(2,.bp (.e 0) 0),(3,.bp (.e 1) 0)]) (h:=[(.l 1 0,.box p.cells),(.e 0,.box [vS (bS [])]),(.e 1,.box [vI 0])]) (cs':=[.bp (.e 0) 0,.bp (.e 1) 0]) (by simp [renF]) (by simp [renF,bR0]) (by simp [renF]))) rfl ?_
   refine rS4 hv @Prg.ac0 @fj0 @fi0 ?_
   refine aa0 [] ?_
   simp
   have hO:=am0
   try simp [ae0,ad0,aB0,aN0] at hO
   refine ab0 19 hO ?_
   refine rS0 ?_
   refine ao0 ?_; simp; refine aj0 (hN0 p.version (by omega) hp1) (by simp) ?_
   rw [hnum]
   refine rS0 ?_
   generalize hM:(ss.map fun a=>el0++[32]++a++[59,10])=M at *
   have hMl:M.length=p.bN0.length:=by rw [<- hM]; simp [hs1]
   have hMg:∀ i (hi:i < p.bN0.length),M[i]'(by omega)=el0++[32]++ss[i]'(by omega)++[59,10]:=fun i hi=>by simp [<- hM]
   have hps:=hp.s
   have hpf:=hp.f
   rw [<- b90,hMl] at hs3
   rw [<- b90,hf1] at hf3
   subst hs3 hf3
   have hput:=put_nil [bH0++[32],numB p.version,[59,10]] (by simp; simp at hlen; omega) (by simp)
   refine aa0 [.l 15 0] ?_
   simp
   have hO:=hput
   try simp [ae0,ad0,aB0,aN0] at hO
   refine ab0 25 hO ?_
   refine rS0 ?_
   generalize hB0:bH0++[32]++numB p.version++[59,10]=B0 at *
   have hB0e:[bH0++[32],numB p.version,[59,10]].flatten=B0:=by rw [<- hB0]; simp
   refine bm0 p.bN0.length (fun i=>[(29,vI i),(28,vI p.bN0.length),(27,.lst (p.bN0.map Slo.cells)),(4,.bp (.l 15 0) 0),(1,.bp (.l 1 0) 0),(2,.bp (.e 0) 0),(3,.bp (.e 1) 0)])
    (fun i=>[(.l 15 0,.box [.self (.l 15 0) 69,.arr (.l 999 0) 0 (B0++aY0 M i).length]),(.l 999 0,.row 5 1 true ((B0++aY0 M i).map an0)),(.l 1 0,.box p.cells),(.e 0,.box [vS (bS [])]),(.e 1,.box [vI 0])])
    (Wk.rens (.l 25 0) (.l 999 0) rfl (by simp) (by simp [renF,bi0,<- hB0]) (by simp [renF,bR0,bi0,<- hB0,Prg.ac0])) ?_
   have htl:B0.length + (aY0 M p.bN0.length).length + (aY0 fs p.fns.length).length < 2 ^ 39:=by
    have:=congrArg List.length h; simp only [List.length_append] at this; omega
   clear hput
   intro i hi
   by_cases hlt:i < p.bN0.length
   ·have hlt':(i:Int) < p.bN0.length:=by omega
    have hle:=h20 M (i + 1)
    rw [<- b90,hMl] at hle
    have hsucc:=eC0 (L:=M) (i:=i) (by omega)
    rw [hMg i hlt] at hsucc
    have hle2:=hle
    rw [hsucc] at hle2
    simp only [List.length_append,List.length_cons,List.length_nil] at hle2
    refine rS1 hlt' ?_
    refine ao0 ?_; simp; refine aj0 (nc0 _ (hs2 i hlt (by omega))) (by simp) ?_
    refine rS0 ?_
    refine aa0 [.l 15 0,.l 999 0] ?_
    simp
    have hO:=as0 (B0++aY0 M i) [el0++[32],ss[i]'(by omega),[59,10]] (by simp only [List.flatten_cons,List.flatten_nil,List.append_nil,List.length_append,List.length_cons,List.length_nil]; omega) (by simp)
    try simp [ae0,ad0,aB0,aN0] at hO
    refine ab0 37 hO ?_
    refine rS0 ?_
    have hflat:B0++aY0 M i++[el0++[32],ss[i]'(by omega),[59,10]].flatten=B0++aY0 M (i + 1):=by
     rw [hsucc]; simp
    have e1:=congrArg List.length hflat
    have e2:=congrArg (List.map an0) hflat
    simp at e1 e2
    refine .of hlt (Wk.rens (.l 37 0) (.l 999 0) rfl (by simp) (by simp [renF]) (by simp [renF,bR0,e1,e2]))
   ·have hge':¬ (i:Int) < p.bN0.length:=by omega
    have:i=p.bN0.length:=by omega
    subst this
    refine rS1 hge' ?_
    generalize hB1:B0++aY0 M p.bN0.length=B1 at *
    have hB1l:B1.length=B0.length + (aY0 M p.bN0.length).length:=by rw [<- hB1,List.length_append]
    have hB1':=congrArg (List.map an0) hB1
    simp only [List.map_append] at hB1'
    refine bm0 p.fns.length (fun i=>[(42,vI i),(41,vI p.fns.length),(40,.lst (p.fns.map Fun.cells)),(4,.bp (.l 15 0) 0),(1,.bp (.l 1 0) 0),(2,.bp (.e 0) 0),(3,.bp (.e 1) 0)])
     (fun i=>[(.l 15 0,.box [.self (.l 15 0) 69,.arr (.l 999 0) 0 (B1++aY0 fs i).length]),(.l 999 0,.row 5 1 true ((B1++aY0 fs i).map an0)),(.l 1 0,.box p.cells),(.e 0,.box [vS (bS [])]),(.e 1,.box [vI 0])])
     (Wk.subs (by simp) (by simp [bi0,Prg.ac0,hB1l,<- hB1'])) ?_
    intro i hi
    by_cases hlt:i < p.fns.length
    ·have hlt':(i:Int) < p.fns.length:=by omega
     have hle:=h20 fs (i + 1)
     rw [<- b90,hf1] at hle
     have hsucc:=eC0 (L:=fs) (i:=i) (by omega)
     have hF:=hf2 i hlt (by omega)
     have hmem:p.fns[i] ∈ p.fns:=List.getElem_mem _
     have hJ:=hj _ hmem
     have hpb:∀ {tt:Bs},shB 0 p.fns[i].body=some tt->nn0 0 p.fns[i].body tt:=fun hh=>oT0 (n:=0) (hp.b _ hmem) hh (fun x hx tt hs=>putsS (SizeOf.sizeOf x + 1) 1 x (by omega) (oP0 (hp.pl _ hmem) x hx) hs)
     have hpsl:=hp.ps _ hmem
     generalize hfe:p.fns[i]=f at *
     generalize hfi:fs[i]'(by omega)=fi at *
     unfold nG0 at hF
     split at hF
     ·rename_i ps bd hsl hbd
      split at hF
      ·rename_i hnt
       rw [Bool.and_eq_true] at hnt
       injection hF with hF
       cases hon:f.on with
       | true =>
        simp only [hon,if_true,kwOn] at hF
        refine rS3 hlt' hfe hon ?_
        refine bm0 f.params.length (fun j=>[(51,vI j),(50,vI f.params.length),(49,.lst (f.params.map Slo.cells)),(10,.arr (.l 59 0) 0 j),(9,vS (bS [111,110,32])),(8,.bp (.l 8 0) 0),(42,vI i),(41,vI p.fns.length),(40,.lst (p.fns.map Fun.cells)),(4,.bp (.l 15 0) 0),(1,.bp (.l 1 0) 0),(2,.bp (.e 0) 0),(3,.bp (.e 1) 0)])
         (fun j=>[(.l 59 0,.row 9 1 true ((ps.take j).map aP0)),(.l 8 0,.box f.cells),(.l 15 0,.box [.self (.l 15 0) 69,.arr (.l 999 0) 0 (B1++aY0 fs i).length]),(.l 999 0,.row 5 1 true ((B1++aY0 fs i).map an0)),(.l 1 0,.box p.cells),(.e 0,.box [vS (bS [])]),(.e 1,.box [vI 0])])
         (Wk.trans (Wk.subs (by simp) (by simp)) (Wk.row (s:=10) (id:=.l 59 0) (ty:=9) (sz:=1) rfl)) ?_
        intro j hjl
        obtain ⟨hpl1,hpl2⟩:=gU0 hsl
        have hfil:=congrArg List.length hF
        have hle2:=congrArg List.length hsucc
        simp only [List.length_append,List.length_cons,List.length_nil] at hfil hle2
        by_cases hjlt:j < f.params.length
        ·have hjlt':(j:Int) < f.params.length:=by omega
         have htk:(ps.take (j + 1)).map aP0=(ps.take j).map aP0++[aP0 (ps[j]'(by omega))]:=by
          rw [List.take_add_one,List.getElem?_eq_getElem (by omega:j < ps.length)]; simp
         refine rS1 hjlt' ?_
         refine ao0 ?_; simp; refine aj0 (nc0 _ (hpl2 j hjlt (by omega))) (by simp) ?_
         refine rS0 ?_
         refine .of hjlt (Wk.subs (by simp) (by simp [htk]))
        ·have hjge':¬ (j:Int) < f.params.length:=by omega
         have:j=f.params.length:=by omega
         subst this
         have htk:ps.take f.params.length=ps:=by rw [<- hpl1]; exact List.take_length
         have htk':List.take f.params.length (ps.map aP0)=ps.map aP0:=by rw [<- List.map_take,htk]
         refine rS2 hjge' htk' ?_
         refine ao0 ?_; simp; refine aj0 (g90 (sB f.result) (k80 hnt.1)) (by simp) ?_
         rw [hnt.1]
         refine rS0 ?_
         refine aa0 [] ?_
         simp
         have hO:=am0
         try simp [ae0,ad0,aB0,aN0] at hO
         refine ab0 64 hO ?_
         refine rS0 ?_
         refine dd0 ?_; simp; refine aj0 ((show Ret prog eB0 [vS f.name] (vS f.name) from g80 hnt.2)) (by simp) ?_
         refine rS0 ?_
         have hJp:=hJ ps hsl
         rw [hpl1] at hJp
         refine bk0 [.l 59 0] ?_
         simp
         have hO:=hJp
         try simp [ae0,ad0,aB0,aN0] at hO
         refine cH0 71 hO ?_
         refine rS0 ?_
         refine aa0 [.l 15 0,.l 999 0] ?_
         simp
         have hO:=as0 (B1++aY0 fs i) [[111,110,32],sB f.name,[40],sepB ps,[41,58,32],sB f.result,[32]] (by simp only [List.flatten_cons,List.flatten_nil,List.append_nil,List.length_append,List.length_cons,List.length_nil]; omega) (by simp)
         try simp [ae0,ad0,aB0,aN0] at hO
         refine ab0 75 hO ?_
         refine rS0 ?_
         refine aa0 [.l 15 0,.l 75 0] ?_
         simp
         have hO:=hpb hbd (B1++aY0 fs i++[[111,110,32],sB f.name,[40],sepB ps,[41,58,32],sB f.result,[32]].flatten) (by simp only [List.flatten_cons,List.flatten_nil,List.append_nil,List.length_append,List.length_cons,List.length_nil]; omega)
         try simp [ae0,ad0,aB0,aN0] at hO
         refine ab0 79 hO ?_
         refine rS0 ?_
         refine aa0 [.l 15 0,.l 79 0] ?_
         simp
         have hO:=as0 (B1++aY0 fs i++[[111,110,32],sB f.name,[40],sepB ps,[41,58,32],sB f.result,[32]].flatten++bd) [[10]] (by simp only [List.flatten_cons,List.flatten_nil,List.append_nil,List.length_append,List.length_cons,List.length_nil]; omega) (by simp)
         try simp [ae0,ad0,aB0,aN0] at hO
         refine ab0 82 hO ?_
         refine rS0 ?_
         have hflat:B1++aY0 fs i++[[111,110,32],sB f.name,[40],sepB ps,[41,58,32],sB f.result,[32]].flatten++bd++[10]=B1++aY0 fs (i + 1):=by
          rw [hsucc,<- hF]; simp
         have e1:=congrArg List.length hflat
         have e2:=congrArg (List.map an0) hflat
         simp at e1 e2
         refine .of hlt (Wk.rens (.l 82 0) (.l 999 0) rfl (by simp) (by simp [renF]) (by simp [renF,bR0,e1,e2]))
       | false =>
        simp only [hon,Bool.false_eq_true,if_false,kwFn] at hF
        refine rS3 hlt' hfe hon ?_
        refine bm0 f.params.length (fun j=>[(51,vI j),(50,vI f.params.length),(49,.lst (f.params.map Slo.cells)),(10,.arr (.l 59 0) 0 j),(9,vS (bS [102,110,32])),(8,.bp (.l 8 0) 0),(42,vI i),(41,vI p.fns.length),(40,.lst (p.fns.map Fun.cells)),(4,.bp (.l 15 0) 0),(1,.bp (.l 1 0) 0),(2,.bp (.e 0) 0),(3,.bp (.e 1) 0)])
         (fun j=>[(.l 59 0,.row 9 1 true ((ps.take j).map aP0)),(.l 8 0,.box f.cells),(.l 15 0,.box [.self (.l 15 0) 69,.arr (.l 999 0) 0 (B1++aY0 fs i).length]),(.l 999 0,.row 5 1 true ((B1++aY0 fs i).map an0)),(.l 1 0,.box p.cells),(.e 0,.box [vS (bS [])]),(.e 1,.box [vI 0])])
         (Wk.trans (Wk.subs (by simp) (by simp)) (Wk.row (s:=10) (id:=.l 59 0) (ty:=9) (sz:=1) rfl)) ?_
        intro j hjl
        obtain ⟨hpl1,hpl2⟩:=gU0 hsl
        have hfil:=congrArg List.length hF
        have hle2:=congrArg List.length hsucc
        simp only [List.length_append,List.length_cons,List.length_nil] at hfil hle2
        by_cases hjlt:j < f.params.length
        ·have hjlt':(j:Int) < f.params.length:=by omega
         have htk:(ps.take (j + 1)).map aP0=(ps.take j).map aP0++[aP0 (ps[j]'(by omega))]:=by
          rw [List.take_add_one,List.getElem?_eq_getElem (by omega:j < ps.length)]; simp
         refine rS1 hjlt' ?_
         refine ao0 ?_; simp; refine aj0 (nc0 _ (hpl2 j hjlt (by omega))) (by simp) ?_
         refine rS0 ?_
         refine .of hjlt (Wk.subs (by simp) (by simp [htk]))
        ·have hjge':¬ (j:Int) < f.params.length:=by omega
         have:j=f.params.length:=by omega
         subst this
         have htk:ps.take f.params.length=ps:=by rw [<- hpl1]; exact List.take_length
         have htk':List.take f.params.length (ps.map aP0)=ps.map aP0:=by rw [<- List.map_take,htk]
         refine rS2 hjge' htk' ?_
         refine ao0 ?_; simp; refine aj0 (g90 (sB f.result) (k80 hnt.1)) (by simp) ?_
         rw [hnt.1]
         refine rS0 ?_
         refine aa0 [] ?_
         simp
         have hO:=am0
         try simp [ae0,ad0,aB0,aN0] at hO
         refine ab0 64 hO ?_
         refine rS0 ?_
         refine dd0 ?_; simp; refine aj0 ((show Ret prog eB0 [vS f.name] (vS f.name) from g80 hnt.2)) (by simp) ?_
         refine rS0 ?_
         have hJp:=hJ ps hsl
         rw [hpl1] at hJp
         refine bk0 [.l 59 0] ?_
         simp
         have hO:=hJp
         try simp [ae0,ad0,aB0,aN0] at hO
         refine cH0 71 hO ?_
         refine rS0 ?_
         refine aa0 [.l 15 0,.l 999 0] ?_
         simp
         have hO:=as0 (B1++aY0 fs i) [[102,110,32],sB f.name,[40],sepB ps,[41,58,32],sB f.result,[32]] (by simp only [List.flatten_cons,List.flatten_nil,List.append_nil,List.length_append,List.length_cons,List.length_nil]; omega) (by simp)
         try simp [ae0,ad0,aB0,aN0] at hO
         refine ab0 75 hO ?_
         refine rS0 ?_
         refine aa0 [.l 15 0,.l 75 0] ?_
         simp
         have hO:=hpb hbd (B1++aY0 fs i++[[102,110,32],sB f.name,[40],sepB ps,[41,58,32],sB f.result,[32]].flatten) (by simp only [List.flatten_cons,List.flatten_nil,List.append_nil,List.length_append,List.length_cons,List.length_nil]; omega)
         try simp [ae0,ad0,aB0,aN0] at hO
         refine ab0 79 hO ?_
         refine rS0 ?_
         refine aa0 [.l 15 0,.l 79 0] ?_
         simp
         have hO:=as0 (B1++aY0 fs i++[[102,110,32],sB f.name,[40],sepB ps,[41,58,32],sB f.result,[32]].flatten++bd) [[10]] (by simp only [List.flatten_cons,List.flatten_nil,List.append_nil,List.length_append,List.length_cons,List.length_nil]; omega) (by simp)
         try simp [ae0,ad0,aB0,aN0] at hO
         refine ab0 82 hO ?_
         refine rS0 ?_
         have hflat:B1++aY0 fs i++[[102,110,32],sB f.name,[40],sepB ps,[41,58,32],sB f.result,[32]].flatten++bd++[10]=B1++aY0 fs (i + 1):=by
          rw [hsucc,<- hF]; simp
         have e1:=congrArg List.length hflat
         have e2:=congrArg (List.map an0) hflat
         simp at e1 e2
         refine .of hlt (Wk.rens (.l 82 0) (.l 999 0) rfl (by simp) (by simp [renF]) (by simp [renF,bR0,e1,e2]))
      ·cases hF
     ·cases hF
    ·have hge':¬ (i:Int) < p.fns.length:=by omega
     have:i=p.fns.length:=by omega
     subst this
     refine rS1 hge' ?_
     rw [<- h] at ht ⊢
     refine aa0 [.l 15 0,.l 999 0] ?_
     simp
     have hO:=ie0 69 (B1++aY0 fs p.fns.length)
     try simp [ae0,ad0,aB0,aN0] at hO
     refine ab0 87 hO ?_
     have hne:B1++aY0 fs p.fns.length ≠ []:=by rw [<- hB1,<- hB0]; simp [bH0]
     by_cases hbig:(B1++aY0 fs p.fns.length).length<=16384
     ·have hb2:¬ (16384:Int) < ((B1++aY0 fs p.fns.length).length:Nat):=by omega
      have hbig':=hbig
      simp only [List.length_append] at hbig'
      rw [List.length_append] at hb2
      refine rS1 hb2 ?_
      refine aa0 [.l 15 0,.l 999 0] ?_
      simp
      have hO:=fN0 69 (B1++aY0 fs p.fns.length) hne
      try simp [ae0,ad0,aB0,aN0] at hO
      refine ab0 92 hO ?_
      refine rS0 ?_
      refine mc0 _ _ (Wk.refl _ _) (dZ0 [.e 0,.e 1] (by simp) ?_)
      simp
      refine lJ0 (ip0 (B1++aY0 fs p.fns.length) 0) (by simp) ?_
      simp
      refine ax0 [] ?_
      exact rT2 @nF0.eq_1 hbig'
     ·have hb2:(16384:Int) < ((B1++aY0 fs p.fns.length).length:Nat):=by omega
      have hbig':=hbig
      simp only [List.length_append] at hbig'
      rw [List.length_append] at hb2
      refine rS1 hb2 ?_
      refine mc0 _ _ (Wk.refl _ _) (dZ0 [.e 0,.e 1] (by simp) ?_)
      simp
      refine lJ0 (ip0 [] 3) (by simp) ?_
      simp
      refine ax0 [] ?_
      exact rT2 @nF0.eq_1 hbig'
  ·cases h
 ·cases h
theorem pf0 (s:Bs):J prog dw0 [.arr (.e 0) 0 0,vS (bS s)] [.row 9 1 true []] (·=.ret (vS (bS [])) [.row 9 1 true []]):=by
 refine at0 mJ0 (by simp) ?_
 refine rS3 @iB0.eq_1 @hpE.eq_1 @hpE.eq_2 ?_
 refine ax0 [] ?_
 exact rT0
def ky0:Bs:=[118,101,114,115,105,111,110,32,49,59,102,110,32,102,40,41,58,105,110,116,123,114,101,116,32,40,40,49,43,50,41,42,51,41,45,40,45,52,41,59,125]
def pa0:Bs:=[118,101,114,115,105,111,110,32,49,59,10,102,110,32,102,40,41,58,32,105,110,116,32,123,10,9,114,101,116,32,40,49,32,43,32,50,41,32,42,32,51,32,45,32,45,52,59,10,125,10]
def tellsB (p:Prg):Bool:=decide (p.version < 9223372036854775808/\p.bN0.length < 2 ^ 30/\p.fns.length < 2 ^ 30) && p.fns.all fun f=>decide (f.params.length=0/\f.body.length < 2 ^ 30) && plB f.body
def wakeB:Bool:=match iS0 ky0 100 with
 | .ok p=>tellsB p && shP p == some pa0
 | .bad _ _=>false
theorem sC0:wakeB=true:=by kernel_rfl
theorem wake_prg:∃ p,iS0 ky0 100=.ok p/\p.tells/\shP p=some pa0/\∀ f ∈ p.fns,f.params=[]:=by
 have h:=sC0
 unfold wakeB at h
 split at h
 ·rename_i p hp
  refine ⟨p,hp,?_⟩
  unfold tellsB at h
  simp only [Bool.and_eq_true,decide_eq_true_eq,List.all_eq_true,beq_iff_eq] at h
  obtain ⟨⟨⟨a,b,c⟩,d⟩,e⟩:=h
  refine ⟨⟨a,b,c,fun f hf=>?_,fun f hf=>(d f hf).1.2,fun f hf=>(d f hf).2⟩,e,fun f hf=>List.length_eq_zero_iff.1 (d f hf).1.1⟩
  have:=(d f hf).1.1
  omega
 ·cases h
theorem sD0:Ret prog gJ0 [] (vB true):=by
 obtain ⟨p,hp,ht,hs,hf⟩:=wake_prg
 have hP:=in0 (bS ky0) (by decide) 100 (by rw [show sB (bS ky0)=ky0 from rfl,hp]; simp [LxR.live])
 rw [show sB (bS ky0)=ky0 from rfl,hp] at hP
 have hS:=lV0 p ht (fun f hff ps hps=>by
  rw [hf f hff] at hps
  rw [ck0.eq_def] at hps
  simp at hps
  subst hps
  exact pf0 _) hs (by decide)
 refine cZ0 kh0 (by simp) ?_
 refine rS1 @fU0.eq_1 ?_
 refine ao0 ?_; simp; refine aj0 hP (by simp [iT0,V.pure,V.bt0]) ?_
 refine rS2 @iT0.eq_1 @iT0.eq_2 ?_
 refine ao0 ?_; simp; refine aj0 hS (by simp [nF0,pa0,V.pure,V.bt0]) ?_
 exact rT2 @nF0.eq_1 @pa0.eq_1
end Go.Am
end

section
namespace Go.Am
set_option maxRecDepth 100000
theorem p90 (ts:List Bs):Lib.join ts [44,32]=sepB ts:=by
 cases ts with
 | nil=>rfl
 | cons x r =>
  rw [Lib.join_cons]
  unfold sepB Lib.joinTail
  rw [List.mapIdx_cons,List.flatten_cons,if_pos rfl,List.nil_append]
  congr 1
  have:∀ (r:List Bs) (k:Nat),((r.mapIdx fun i t=>(if i + (k + 1)=0 then ([]:Bs) else [44,32])++t).flatten)=(r.map ([44,32]++·)).flatten:=by
   intro r
   induction r with
   | nil=>intro k; rfl
   | cons y r ih =>
    intro k
    rw [List.mapIdx_cons,List.map_cons,List.flatten_cons,List.flatten_cons,if_neg (by omega)]
    congr 1
    have:=ih (k + 1)
    simpa [Nat.add_assoc,Nat.add_comm,Nat.add_left_comm] using this
  exact (this r 0).symm
theorem Join_row (ts:List Bs) (h0:ts ≠ []) (hn:ts.length < 2 ^ 30) (hl:(sepB ts).length < 2 ^ 40) :
  J prog dw0 [.arr (.e 0) 0 ts.length,vS (bS [44,32])] [.row 9 1 true (ts.map aP0)] (·=.ret (vS (bS (sepB ts))) [.row 9 1 true (ts.map aP0)]):=by
 obtain ⟨c,hc⟩:∃ c,Go.Proofs.Tryz.f26.body=some c:=⟨_,rfl⟩
 refine ql0 Go.Proofs.Tryz.func26 (by kernel_rfl) hc ?_
 intro H μ us w hv hW
 have r0:=hv.2 0 _ rfl
 have r1:=hv.2 1 _ rfl
 rw [mj0 hv]
 generalize us.getD 0 undef=p at r0
 generalize us.getD 1 undef=q at r1
 cases r1
 have hlen:0 < ts.length:=List.length_pos_iff.2 h0
 cases r0 with
 | arr _ _ _ a cap hc ha =>
 obtain ⟨bg,g1,g2,g3⟩:=ha.resolve_left (by omega)
 subst g2
 have hl0:(hpE 0 [.row 9 1 true (ts.map aP0)]).lookup (.e 0)=some (.row 9 1 true (ts.map aP0)):=rfl
 rcases hW.ob _ _ hl0 with ⟨z,_⟩ | ⟨bg',cur,m1,⟨m2,m3,m4⟩,m5,m6,m7,m8,m9,m10,m11⟩
 ·exact absurd (by simpa using z) h0
 rw [g1] at m1; injection m1 with m1; subst m1
 have hj:=Go.Proofs.Any.strings_Join Go.Proofs.Tryz.lays156 Go.Proofs.Tryz.bx156 bg.b 0 cap (ts.map bS) (bS [44,32]) w (fun j x hx=>by
   rw [List.getElem?_map,Option.map_eq_some_iff] at hx
   obtain ⟨t,ht,rfl⟩:=hx
   obtain ⟨y,y1,y2⟩:=m11 j (aP0 t) (by rw [List.getElem?_map,ht]; rfl) 0 _ rfl
   cases y2
   simpa [World.cell?,m5] using y1) (Array.getElem?_eq_some_iff.1 m5).1 (by simp; omega) (by simpa using hc) (by
   rw [List.map_map,show (ts.map ((fun x:ByteArray=>x.data.toList) ∘ bS))=ts from List.map_id ts,show (bS [44,32]).data.toList=[44,32] from rfl,p90]; omega)
 rw [List.map_map,show (ts.map ((fun x:ByteArray=>x.data.toList) ∘ bS))=ts from List.map_id ts,show (bS [44,32]).data.toList=[44,32] from rfl,p90,List.length_map] at hj
 have hs:(⟨(sepB ts).toArray⟩:ByteArray)=bS (sepB ts):=rfl
 rw [hs] at hj
 generalize bS (sepB ts)=z at *
 have hfin:Calls prog 26 #[.slice (some ⟨bg.b,0,none⟩) ts.length cap,.string (bS [44,32])] w fun e w'=>e=.returned (.string z)/\Go.RowKit.Below w.heap.size w w':=hj
 clear hj
 rw [Nat.zero_mul]
 refine Calls.mono hfin ?_
 rintro e w' ⟨he,hB⟩
 exact ⟨⟨.string z,he,.c (.string z)⟩,hB⟩
theorem Join_own (ts:List Bs) (hn:ts.length < 2 ^ 30) (hl:(sepB ts).length < 2 ^ 40) :
  J prog dw0 [.arr (.e 0) 0 ts.length,vS (bS [44,32])] [.row 9 1 true (ts.map aP0)] (·=.ret (vS (bS (sepB ts))) [.row 9 1 true (ts.map aP0)]):=by
 cases ts with
 | nil=>exact pf0 _
 | cons x r=>exact Join_row (x :: r) (by simp) hn hl
end Go.Am
end

section
namespace Go.Am
set_option maxRecDepth 100000
variable {ts:List Tok}
theorem ah0 {α β:Type} {r:LxR α} {g:α->LxR β} (h:r.live) (h2:∀ a,r=.ok a->(g a).live):(r.bind g).live:=by
 cases r with
 | ok a=>exact h2 a rfl
 | bad a e=>exact h
theorem dz0 {α:Type} (n:Nat) {e:Int} (h:e ≠ -1):(e70 ts n e:LxR α).live:=h
theorem aI0 (n:Nat) (t:Bs):(bh0 ts n t).live:=by unfold bh0; split; exact trivial; exact dz0 _ (by decide)
theorem nY0 (n:Nat) (t:Bs):(m00 ts n t).live:=by unfold m00; split; exact trivial; exact dz0 _ (by decide)
theorem eJ0 (n:Nat):(dA0 ts n).live:=by unfold dA0; split; exact trivial; exact dz0 _ (by decide)
theorem pInt_live (n:Nat):(pInt ts n).live:=by unfold pInt; split; exact trivial; exact dz0 _ (by decide)
theorem pW0 (n:Nat):(pKey ts n).live:=by unfold pKey; split; exact trivial; split; exact trivial; exact dz0 _ (by decide)
theorem jo0 (n d:Nat):(km0 ts n d).live:=by unfold km0; split; exact dz0 _ (by decide); exact trivial
theorem jp0:∀ (r n:Nat),(fI0 ts r n).live
 | 0,n=>dz0 _ (by decide)
 | r + 1,n=>by
  rw [fI0]
  split
  ·exact trivial
  split
  ·exact ah0 (jp0 r _) fun _ _=>ah0 (aI0 _ _) fun _ _=>trivial
  split
  ·exact ah0 (pW0 _) fun _ _=>ah0 (aI0 _ _) fun _ _=>ah0 (jp0 r _) fun _ _=>ah0 (aI0 _ _) fun _ _=>trivial
  ·exact pW0 _
theorem nX0 (n:Nat):(ko0 ts n).live:=ah0 (eJ0 _) fun _ _=>ah0 (aI0 _ _) fun _ _=>ah0 (jp0 _ _) fun _ _=>trivial
structure LiveX (ts:List Tok) (f:Nat):Prop where
 ex:∀ {d n:Nat},n < ts.length->16 * (ts.length - n) + 10<=f->(b50 ts f d n).live
 bin:∀ {l d n:Nat},n < ts.length->l<=5->16 * (ts.length - n) + 9<=f + l->(pBin ts f l d n).live
 loop:∀ {l d:Nat} {out:Exq} {n:Nat},n < ts.length->l<=4->16 * (ts.length - n) + 1<=f->(lq0 ts f l d out n).live
 un:∀ {d n:Nat},n < ts.length->16 * (ts.length - n) + 3<=f->(pUn ts f d n).live
 post:∀ {d:Nat} {out:Exq} {n:Nat},n < ts.length->16 * (ts.length - n) + 1<=f->(lr0 ts f d out n).live
 prim:∀ {d n:Nat},n < ts.length->16 * (ts.length - n) + 2<=f->(jO0 ts f d n).live
 args:∀ {d:Nat} {out:List Exq} {n:Nat},n < ts.length->16 * (ts.length - n) + 11<=f->(iP0 ts f d out n).live
theorem liveX (hE:TEnd ts):∀ f,LiveX ts f
 | 0=>⟨fun _ h=>by omega,fun _ _ h=>by omega,fun _ _ h=>by omega,fun _ h=>by omega,fun _ h=>by omega,fun _ h=>by omega,fun _ h=>by omega⟩
 | f + 1=>by
  have ih:=liveX hE f
  have ig:=ki0 hE f
  refine ⟨fun hn h=>?_,fun hn hl h=>?_,fun hn hl h=>?_,fun hn h=>?_,fun hn h=>?_,fun hn h=>?_,fun hn h=>?_⟩
  ·rw [b50]
   exact ah0 (jo0 _ _) fun _ _=>ih.bin hn (by omega) (by omega)
  ·rw [pBin]
   split
   ·exact ih.un hn (by omega)
   ·refine ah0 (ih.bin hn (by omega) (by omega)) fun ⟨b,m⟩ e=>?_
    have q:=ig.bin hn e
    exact ih.loop q.2 (by omega) (by dsimp only; omega)
  ·rw [lq0]
   split
   ·rename_i hi
    have h0:=hE _ hn (by rw [iK0 hi]; decide)
    refine ah0 (ih.bin h0 (by omega) (by omega)) fun ⟨b,m⟩ e=>?_
    have q:=ig.bin h0 e
    dsimp only
    split
    ·split
     ·exact dz0 _ (by decide)
     ·exact trivial
    ·exact ih.loop q.2 (by omega) (by omega)
   ·exact trivial
  ·rw [pUn]
   split
   ·rename_i hi
    have h0:=aw0 hE hn hi (by decide)
    exact ah0 (jo0 _ _) fun _ _=>ah0 (ih.un h0 (by omega)) fun _ _=>trivial
   split
   ·rename_i hi
    have h0:=aw0 hE hn hi (by decide)
    exact ah0 (jo0 _ _) fun _ _=>ah0 (ih.un h0 (by omega)) fun _ _=>trivial
   ·refine ah0 (ih.prim hn (by omega)) fun ⟨b,m⟩ e=>?_
    have q:=ig.prim hn e
    exact ih.post q.2 (by dsimp only; omega)
  ·rw [lr0]
   split
   ·rename_i hi
    have h0:=aw0 hE hn hi (by decide)
    refine ah0 (ih.ex h0 (by omega)) fun ⟨b,m⟩ e=>ah0 (aI0 _ _) fun m' e'=>?_
    have q:=ig.ex h0 e
    have q':=ak0 hE q.2 e'
    exact ih.post q'.2 (by dsimp only at *; omega)
   ·exact trivial
  ·rw [jO0]
   split; · exact trivial
   split; · exact trivial
   split; · exact trivial
   split; · exact trivial
   split
   ·rename_i hi
    have h0:=aw0 hE hn hi (by decide)
    exact ah0 (ih.ex h0 (by omega)) fun ⟨b,m⟩ e=>ah0 (aI0 _ _) fun m' e'=>trivial
   ·refine ah0 (eJ0 _) fun ⟨b,m⟩ e=>?_
    split
    ·rename_i hi
     split
     ·exact trivial
     ·have q:=a00 hE hn e
      have e1:=e
      unfold dA0 at e1
      split at e1
      ·injection e1 with e1; injection e1 with e2 e3; subst e3
       have h0:=aw0 hE q.2 hi (by decide)
       exact ah0 (ih.args h0 (by omega)) fun _ _=>trivial
      ·cases e1
    ·exact trivial
  ·rw [iP0]
   refine ah0 (ih.ex hn (by omega)) fun ⟨b,m⟩ e=>?_
   have q:=ig.ex hn e
   dsimp only
   split
   ·exact trivial
   ·refine ah0 (aI0 _ _) fun m' e'=>?_
    have q':=ak0 hE q.2 e'
    exact ih.args q'.2 (by omega)
structure LiveS (ts:List Tok) (f:Nat):Prop where
 block:∀ {d n:Nat},n < ts.length->16 * (ts.length - n) + 1<=f->(cf0 ts f d n).live
 stms:∀ {d:Nat} {out:List Stm} {n:Nat},n < ts.length->16 * (ts.length - n) + 2<=f->(lt0 ts f d out n).live
 stm:∀ {d n:Nat},n < ts.length->16 * (ts.length - n) + 1<=f->(pStm ts f d n).live
theorem liveS (hE:TEnd ts):∀ f,LiveS ts f
 | 0=>⟨fun _ h=>by omega,fun _ h=>by omega,fun _ h=>by omega⟩
 | f + 1=>by
  have ih:=liveS hE f
  have ix:=liveX hE f
  have ig:=ki0 hE f
  have is:=mL0 hE f
  refine ⟨fun hn h=>?_,fun hn h=>?_,fun hn h=>?_⟩
  ·rw [cf0]
   refine ah0 (jo0 _ _) fun _ _=>ah0 (aI0 _ _) fun m e=>?_
   have q:=ak0 hE hn e
   exact ih.stms q.2 (by omega)
  ·rw [lt0]
   split
   ·exact trivial
   ·refine ah0 (ih.stm hn (by omega)) fun ⟨s,m⟩ e=>?_
    have q:=is.stm hn e
    exact ih.stms q.2 (by dsimp only; omega)
  ·rw [pStm]
   split
   ·rename_i hi
    have h0:=aw0 hE hn hi (by decide)
    refine ah0 (eJ0 _) fun ⟨t,n1⟩ e1=>ah0 (aI0 _ _) fun n2 e2=>?_
    have q1:=a00 hE h0 e1
    have q2:=ak0 hE q1.2 e2
    exact ah0 (ix.ex q2.2 (by dsimp only at *; omega)) fun _ _=>ah0 (aI0 _ _) fun _ _=>trivial
   split
   ·rename_i hi
    have h0:=aw0 hE hn hi (by decide)
    refine ah0 (eJ0 _) fun ⟨t,n1⟩ e1=>?_
    have q1:=a00 hE h0 e1
    split
    ·rename_i hi2
     have h00:=aw0 hE q1.2 hi2 (by decide)
     refine ah0 (ix.ex h00 (by dsimp only at *; omega)) fun ⟨x,n3⟩ e3=>ah0 (aI0 _ _) fun n4 e4=>ah0 (aI0 _ _) fun n5 e5=>?_
     have q3:=ig.ex h00 e3
     have q4:=ak0 hE q3.2 e4
     have q5:=ak0 hE q4.2 e5
     exact ah0 (ix.ex q5.2 (by dsimp only at *; omega)) fun _ _=>ah0 (aI0 _ _) fun _ _=>trivial
    ·refine ah0 (aI0 _ _) fun n2 e2=>?_
     have q2:=ak0 hE q1.2 e2
     exact ah0 (ix.ex q2.2 (by dsimp only at *; omega)) fun _ _=>ah0 (aI0 _ _) fun _ _=>trivial
   split
   ·rename_i hi
    have h0:=aw0 hE hn hi (by decide)
    refine ah0 (eJ0 _) fun ⟨t,n1⟩ e1=>ah0 (aI0 _ _) fun n2 e2=>?_
    have q1:=a00 hE h0 e1
    have q2:=ak0 hE q1.2 e2
    exact ah0 (ix.ex q2.2 (by dsimp only at *; omega)) fun _ _=>ah0 (aI0 _ _) fun _ _=>ah0 (aI0 _ _) fun _ _=>trivial
   split
   ·rename_i hi
    have h0:=aw0 hE hn hi (by decide)
    refine ah0 (ix.ex h0 (by omega)) fun ⟨x,n1⟩ e1=>?_
    have q1:=ig.ex h0 e1
    refine ah0 (ih.block q1.2 (by dsimp only at *; omega)) fun ⟨b,n2⟩ e2=>?_
    have q2:=is.block q1.2 e2
    split
    ·rename_i hi2
     have h00:=aw0 hE q2.2 hi2 (by decide)
     exact ah0 (ih.block h00 (by dsimp only at *; omega)) fun _ _=>trivial
    ·exact trivial
   split
   ·rename_i hi
    have h0:=aw0 hE hn hi (by decide)
    refine ah0 (eJ0 _) fun ⟨t,n1⟩ e1=>ah0 (nY0 _ _) fun n2 e2=>?_
    have q1:=a00 hE h0 e1
    have q2:=kW0 hE q1.2 e2
    refine ah0 (ix.ex q2.2 (by dsimp only at *; omega)) fun ⟨x,n3⟩ e3=>?_
    have q3:=ig.ex q2.2 e3
    exact ah0 (ih.block q3.2 (by dsimp only at *; omega)) fun _ _=>trivial
   split
   ·rename_i hi
    have h0:=aw0 hE hn hi (by decide)
    exact ah0 (ix.ex h0 (by omega)) fun _ _=>ah0 (aI0 _ _) fun _ _=>trivial
   ·exact dz0 _ (by decide)
end Go.Am
end

section
namespace Go.Am
set_option maxRecDepth 100000
variable {ts:List Tok}
theorem lT0 (hE:TEnd ts):∀ {f:Nat} {out:List Slo} {n:Nat},n < ts.length->16 * (ts.length - n) + 1<=f->(c80 ts f out n).live
 | 0,out,n,hn,h=>by omega
 | f + 1,out,n,hn,h=>by
  rw [c80]
  refine ah0 (nX0 _) fun ⟨s,n1⟩ e1=>?_
  have q1:=ia0 hE hn e1
  dsimp only at *
  split
  ·exact trivial
  ·refine ah0 (aI0 _ _) fun n2 e2=>?_
   have q2:=ak0 hE q1.2 e2
   exact lT0 hE q2.2 (by omega)
theorem pV0 (hE:TEnd ts) {n:Nat} (hn:n < ts.length) {f:Nat} (on:Bool) (h:16 * (ts.length - n) + 2<=f):(pFun ts f on n).live:=by
 unfold pFun
 refine ah0 (eJ0 _) fun ⟨t,n1⟩ e1=>ah0 (aI0 _ _) fun n2 e2=>?_
 have q1:=a00 hE hn e1
 have q2:=ak0 hE q1.2 e2
 dsimp only at *
 refine ah0 ?_ fun ⟨ps,n3⟩ e3=>ah0 (aI0 _ _) fun n4 e4=>ah0 (jp0 _ _) fun ⟨k,n5⟩ e5=>?_
 ·split
  ·exact trivial
  ·exact lT0 hE q2.2 (by omega)
 ·have q3:n2 < n3/\n3 < ts.length:=by
   split at e3
   ·rename_i hi
    have h0:=aw0 hE q2.2 hi (by decide)
    injection e3 with e3; injection e3 with h1 h2; subst h2; omega
   ·exact fL0 hE q2.2 e3
  have q4:=ak0 hE q3.2 e4
  have q5:=eN0 hE q4.2 e5
  exact ah0 ((liveS hE f).block q5.2.1 (by dsimp only at *; omega)) fun _ _=>trivial
theorem jq0 (hE:TEnd ts):∀ {f:Nat} {p:Prg} {n:Nat},n < ts.length->16 * (ts.length - n) + 3<=f->(l30 ts f p n).live
 | 0,p,n,hn,h=>by omega
 | f + 1,p,n,hn,h=>by
  rw [l30]
  split
  ·exact trivial
  split
  ·rename_i hi
   have h0:=aw0 hE hn hi (by decide)
   refine ah0 (nX0 _) fun ⟨s,n1⟩ e1=>ah0 (aI0 _ _) fun n2 e2=>?_
   have q1:=ia0 hE h0 e1
   have q2:=ak0 hE q1.2 e2
   exact jq0 hE q2.2 (by dsimp only at *; omega)
  split
  ·rename_i hi
   have h0:=aw0 hE hn hi (by decide)
   refine ah0 (pV0 hE h0 _ (by omega)) fun ⟨s,n1⟩ e1=>?_
   have q1:=kn0 hE h0 e1
   exact jq0 hE q1.2 (by dsimp only at *; omega)
  split
  ·rename_i hi
   have h0:=aw0 hE hn hi (by decide)
   refine ah0 (pV0 hE h0 _ (by omega)) fun ⟨s,n1⟩ e1=>?_
   have q1:=kn0 hE h0 e1
   exact jq0 hE q1.2 (by dsimp only at *; omega)
  ·exact dz0 _ (by decide)
theorem sk0 (hE:TEnd ts) (hn:0 < ts.length) {f:Nat} (h:16 * ts.length + 3<=f):(ls0 ts f).live:=by
 unfold ls0
 refine ah0 (nY0 _ _) fun n e=>ah0 (pInt_live _) fun ⟨v,n1⟩ e1=>ah0 (aI0 _ _) fun n2 e2=>?_
 have q:=kW0 hE hn e
 have q1:=qK0 hE q.2 e1
 have q2:=ak0 hE q1.2 e2
 exact jq0 hE q2.2 (by dsimp only at *; omega)
@[irreducible] def oA0:Nat:=70000
theorem fuelP_eq:oA0=70000:=by unfold oA0; rfl
theorem qM0 (s:Bs):(iS0 s oA0).live:=by
 have hg:=kk0 s
 unfold iS0
 cases hx:hJ0 s with
 | bad a e=>rw [hx] at hg; exact hg.2
 | ok ts =>
  rw [hx] at hg
  obtain ⟨o,b,rfl,ho⟩:=hg
  have hl:=sk0 (ts:=o++[⟨5,bS [],0,b⟩]) nK0.tend (by simp) (f:=oA0) (by rw [fuelP_eq,List.length_append]; simp only [List.length_cons,List.length_nil]; omega)
  dsimp only
  cases hp:ls0 (o++[⟨5,bS [],0,b⟩]) oA0 with
  | bad n e=>rw [hp] at hl; exact hl
  | ok q=>exact trivial
@[irreducible] def oU0 (s:Bs):LxR Prg:=iS0 s oA0
theorem ru0 (s:Bs):oU0 s=iS0 s oA0:=by unfold oU0; rfl
theorem rL0 (s:ByteArray) (hs:s.size < 2 ^ 39):Ret prog hX0 [vS s] (iT0 (oU0 (sB s))):=by
 have h:=in0 s hs oA0 (qM0 _)
 rw [<- ru0] at h
 exact h
end Go.Am
end

section
namespace Go.Am
set_option maxRecDepth 100000
structure mp0 (t:Tok):Prop where
 name:t.kind=1->e90 t.text=false->cS0 (sB t.text)=true
 num:t.kind=2->0<=t.num/\t.num < 9223372036854775808
 text:t.kind=3->gt0 (sB t.text)=true
theorem rp0:∀ {l:Bs} {n m:Int},l.all al0.contains=true->0<=n->n < 9223372036854775808->numV l n=some m->0<=m/\m < 9223372036854775808
 | [],n,m,_,h0,h1,h=>by simp [numV] at h; omega
 | c :: l,n,m,hd,h0,h1,h=>by
  rw [numV] at h
  simp only [List.all_cons,Bool.and_eq_true] at hd
  have hc:∀ c ∈ al0,48<=c.toNat/\c.toNat<=57:=by decide
  have hc':=hc c (by simpa using hd.1)
  split at h
  ·cases h
  ·rename_i hn
   have h10:=Int.tdiv_eq_ediv_of_nonneg (a:=9223372036854775807 - ((c.toNat:Int) - 48)) (b:=10) (by omega)
   rw [h10] at hn
   exact rp0 hd.2 (by omega) (by omega) h
theorem kt0 {i0:Nat}:∀ {l:Bs} {j:Nat} {acc t:Bs} {m:Nat},(acc.all fun c=>decide (32<=c/\c<=126))=true->ic0 i0 l j acc=.ok (t,m)->gt0 t=true
 | [],j,acc,t,m,_,h=>by simp [ic0] at h
 | c :: l,j,acc,t,m,ha,h=>by
  rw [ic0.eq_def] at h
  simp only at h
  split at h
  ·split at h
   ·cases h
   ·injection h with h; injection h with h1 h2; subst h1
    unfold gt0
    rw [ha]; simp; omega
  split at h
  ·cases h
  rename_i hc
  split at h
  ·split at h
   ·cases h
   ·split at h
    ·rename_i hd
     refine kt0 ?_ h
     rw [List.all_append,ha]
     rcases hd with rfl | rfl <;> decide
    ·cases h
  ·refine kt0 ?_ h
   rw [List.all_append,ha]
   simp only [List.all_cons,List.all_nil,Bool.and_true,Bool.true_and,decide_eq_true_eq]
   simp only [not_or,UInt8.not_lt] at hc
   exact ⟨hc.1,hc.2⟩
theorem rC0 (set s:Bs) (i:Nat):(s.drop i).take (bf0 set s i - i)=(s.drop i).takeWhile fun c=>set.contains c:=by
 unfold bf0
 rw [Nat.add_sub_cancel_left]
 exact (List.prefix_iff_eq_take.1 (List.takeWhile_prefix _)).symm
theorem lxOne_ok {s:Bs} {i:Nat} {k:Int} {t:Bs} {n:Int} {j:Nat} (h:lm0 s i=.ok (k,t,n,j)) (a:Int):mp0 ⟨k,bS t,n,a⟩:=by
 unfold lm0 at h
 split at h
 ·cases h
 rename_i c hc
 obtain ⟨hi,hci⟩:=List.getElem?_eq_some_iff.1 hc
 have hdr:s.drop i=c :: s.drop (i + 1):=by rw [List.drop_eq_getElem_cons hi,hci]
 split at h
 ·rename_i hl
  split at h
  ·cases h
  ·rename_i hn
   injection h with h; injection h with h1 h; injection h with h2 h; injection h with h3 h4
   subst h1 h2 h3
   refine ⟨fun _ hr=>?_,(by intro h; simp at h),(by intro h; simp at h)⟩
   rw [rC0] at *
   have hdis:∀ c ∈ au0,al0.contains c=false:=by decide
   have hlc:(au0++al0).contains c=true:=by simp at hl ⊢; exact .inl hl
   have hlen:((s.drop i).takeWhile fun c=>(au0++al0).contains c).length<=16:=by
    unfold bf0 at hn; omega
   have hr':qC0.contains ((s.drop i).takeWhile fun c=>(au0++al0).contains c)=false:=hr
   have hall:((s.drop i).takeWhile fun c=>(au0++al0).contains c).all (fun c=>(au0++al0).contains c)=true:=by
    exact List.all_takeWhile
   show cS0 ((s.drop i).takeWhile fun c=>(au0++al0).contains c)=true
   unfold cS0
   rw [hr',hall]
   have hhd:((s.drop i).takeWhile fun c=>(au0++al0).contains c)=c :: (s.drop (i + 1)).takeWhile fun c=>(au0++al0).contains c:=by
    rw [hdr,List.takeWhile_cons,if_pos hlc]
   rw [hhd] at hlen ⊢
   have:=hdis c (by simpa using hl)
   simp only [List.headD_cons,this]
   simp at hlen ⊢
   omega
 split at h
 ·split at h
  ·cases h
  ·split at h
   ·cases h
   ·rename_i m hm
    injection h with h; injection h with h1 h; injection h with h2 h; injection h with h3 h4
    subst h1 h2 h3
    refine ⟨(by intro h; simp at h),fun _=>?_,(by intro h; simp at h)⟩
    rw [rC0] at hm
    exact rp0 List.all_takeWhile (by omega) (by omega) hm
 split at h
 ·split at h
  ·cases h
  ·rename_i t' j' ht
   injection h with h; injection h with h1 h; injection h with h2 h; injection h with h3 h4
   subst h1 h2 h3
   exact ⟨(by intro h; simp at h),(by intro h; simp at h),fun _=>kt0 rfl ht⟩
 split at h
 ·injection h with h; injection h with h1 h; subst h1
  exact ⟨(by intro h; simp at h),(by intro h; simp at h),(by intro h; simp at h)⟩
 split at h
 ·injection h with h; injection h with h1 h; subst h1
  exact ⟨(by intro h; simp at h),(by intro h; simp at h),(by intro h; simp at h)⟩
 ·cases h
theorem nV0 {s:Bs}:∀ {f i:Nat} {out ts:List Tok},(∀ t ∈ out,mp0 t)->jN0 s f i out=.ok ts->∀ t ∈ ts,mp0 t
 | 0,i,out,ts,_,h=>by simp [jN0] at h
 | f + 1,i,out,ts,ho,h=>by
  rw [jN0] at h
  split at h
  ·split at h
   ·cases h
   ·injection h with h; subst h
    intro t ht
    rcases List.mem_append.1 ht with ht | ht
    ·exact ho t ht
    ·obtain rfl:=List.mem_singleton.1 ht
     exact ⟨(by intro h; simp at h),(by intro h; simp at h),(by intro h; simp at h)⟩
  ·split at h
   ·cases h
   ·rename_i k t n j h1
    split at h
    ·cases h
    ·refine nV0 (fun t ht=>?_) h
     rcases List.mem_append.1 ht with ht | ht
     ·exact ho t ht
     ·obtain rfl:=List.mem_singleton.1 ht
      exact lxOne_ok h1 _
theorem qH0 {s:Bs} {ts:List Tok} (h:hJ0 s=.ok ts):∀ n,mp0 (tk ts n):=by
 unfold hJ0 at h
 split at h
 ·cases h
 ·have ha:=nV0 (fun t ht=>by cases ht) h
  intro n
  unfold tk
  rw [List.getD_eq_getElem?_getD]
  cases hn:ts[n]? with
  | none=>exact ⟨fun h=>absurd h (by decide),fun h=>absurd h (by decide),fun h=>absurd h (by decide)⟩
  | some t=>exact ha t (List.mem_of_getElem? hn)
end Go.Am
end

section
namespace Go.Am
set_option maxRecDepth 100000
theorem n00:∀ (l:List Exq) (x:Exq),plL (l++[x])=(plL l && plE x)
 | [],x=>by simp [plL]
 | y :: l,x=>by simp only [List.cons_append,plL,n00 l x,Bool.and_assoc]
structure OkE (x:Exq) (k:Nat):Prop where
 sz:plE x=true
 sh:∃ t,shE x=some t/\t.length + 100<=1000 * k
structure OkL (l:List Exq) (k:Nat):Prop where
 sz:plL l=true
 len:l.length<=k
 sh:∃ ts,shL l=some ts/\(ts.map fun t=>t.length + 2).sum<=1000 * k
theorem OkE.mono {x:Exq} {k k':Nat} (h:OkE x k) (hk:k<=k'):OkE x k':=⟨h.sz,by obtain ⟨t,h1,h2⟩:=h.sh; exact ⟨t,h1,by omega⟩⟩
theorem OkL.nil (k:Nat):OkL [] k:=⟨rfl,by simp,[],by rw [shL.eq_def],by simp⟩
theorem n60:∀ {l:List Exq} {x:Exq} {ts:List Bs} {t:Bs},shL l=some ts->shE x=some t->shL (l++[x])=some (ts++[t])
 | [],x,ts,t,h,h2=>by
  rw [shL.eq_def] at h; injection h with h; subst h
  rw [List.nil_append,shL.eq_def]; dsimp only; rw [h2,shL.eq_def]; rfl
 | y :: l,x,ts,t,h,h2=>by
  rw [shL.eq_def] at h
  dsimp only at h
  split at h
  ·rename_i a b ha hb
   injection h with h; subst h
   rw [List.cons_append,shL.eq_def]; dsimp only
   rw [ha,n60 hb h2]; rfl
  ·cases h
theorem OkL.snoc {l:List Exq} {x:Exq} {k k2:Nat} (h:OkL l k) (hx:OkE x k2) (h0:1<=k2):OkL (l++[x]) (k + k2):=by
 obtain ⟨ts,h1,h2⟩:=h.sh
 obtain ⟨t,h3,h4⟩:=hx.sh
 have:=h.len
 refine ⟨by rw [n00,h.sz,hx.sz]; rfl,by simp; omega,_,n60 h1 h3,?_⟩
 rw [List.map_append,List.sum_append]
 simp
 omega
theorem OkL.mono {l:List Exq} {k k':Nat} (h:OkL l k) (hk:k<=k'):OkL l k':=⟨h.sz,by have:=h.len; omega,by obtain ⟨t,h1,h2⟩:=h.sh; exact ⟨t,h1,by omega⟩⟩
theorem rz0 (ts:List Bs):(sepB ts).length<=(ts.map fun t=>t.length + 2).sum:=by
 unfold sepB
 rw [List.length_flatten]
 have:∀ (f:Nat->Bs->Bs) (hf:∀ i t,(f i t).length<=t.length + 2) (l:List Bs),((l.mapIdx f).map List.length).sum<=(l.map fun t=>t.length + 2).sum:=by
  intro f hf l
  induction l generalizing f with
  | nil=>simp
  | cons t l ih =>
   rw [List.mapIdx_cons,List.map_cons,List.sum_cons,List.map_cons,List.sum_cons]
   have:=hf 0 t
   have:=ih (fun i=>f (i + 1)) fun i t=>hf (i + 1) t
   omega
 exact this _ (fun i t=>by split <;> simp <;> omega) ts
theorem quote_len (s:Bs):(io0 s).length<=2 * s.length + 2:=by
 unfold io0
 have:∀ l:Bs,(l.flatMap fun c=>if c=92 then [92,92] else if c=34 then [92,34] else [c]).length<=2 * l.length:=by
  intro l
  induction l with
  | nil=>simp
  | cons c l ih =>
   rw [List.flatMap_cons,List.length_append]
   have:(if c=92 then [92,92] else if c=34 then [92,34] else [c]:Bs).length<=2:=by split; simp; split <;> simp
   simp only [List.length_cons]; omega
 have:=this s
 simp only [List.length_append,List.length_cons,List.length_nil]; omega
theorem cD0 {s:Bs} (h:cS0 s=true):s.length<=16:=by
 unfold cS0 at h
 simp only [Bool.and_eq_true,decide_eq_true_eq] at h
 exact h.1.1.1.2
theorem okE_int {op num:Int} {text:ByteArray} {slot:Int} {type:ByteArray} {at_:Int} (h0:0<=num) (h1:num < 9223372036854775808):OkE (.mk 1 op num text slot type [] at_) 1:=by
 refine ⟨by rw [plE.eq_def]; simp [plL,h1],numB num,by rw [shE.eq_def]; simp [h0],?_⟩
 have:=Lib.itoa_length_le num (by omega) (by omega)
 unfold numB; omega
theorem okE_text {op num:Int} {text:ByteArray} {slot:Int} {type:ByteArray} {at_:Int} (h1:num < 9223372036854775808) (h:gt0 (sB text)=true):OkE (.mk 3 op num text slot type [] at_) 1:=by
 refine ⟨by rw [plE.eq_def]; simp [plL,h1],io0 (sB text),by rw [shE.eq_def]; simp [h],?_⟩
 have:=quote_len (sB text)
 unfold gt0 at h
 simp only [Bool.and_eq_true,decide_eq_true_eq] at h
 omega
theorem rq0 {op num:Int} {text:ByteArray} {slot:Int} {type:ByteArray} {at_:Int} (h:num=0\/num=1):OkE (.mk 2 op num text slot type [] at_) 1:=by
 refine ⟨by rw [plE.eq_def]; simp [plL]; omega,if num=1 then hG0 else eG0,by rw [shE.eq_def]; simp [h],?_⟩
 split <;> simp [hG0,eG0]
theorem okE_name {op num:Int} {text:ByteArray} {slot:Int} {type:ByteArray} {at_:Int} (h1:num < 9223372036854775808) (h:cS0 (sB text)=true):OkE (.mk 6 op num text slot type [] at_) 1:=by
 refine ⟨by rw [plE.eq_def]; simp [plL,h1],sB text,by rw [shE.eq_def]; simp [h],?_⟩
 have:=cD0 h; omega
theorem rr0 {op num:Int} {text:ByteArray} {slot:Int} {type:ByteArray} {at_:Int} {args:List Exq} {k:Nat} (h1:num < 9223372036854775808) (h:cS0 (sB text)=true) (ha:OkL args k) (hk:k < 1073741824) :
  OkE (.mk 7 op num text slot type args at_) (k + 1):=by
 have hl:=ha.len
 obtain ⟨ts,h2,h3⟩:=ha.sh
 refine ⟨by rw [plE.eq_def]; simp [ha.sz,h1]; omega,sB text++[40]++sepB ts++[41],by rw [shE.eq_def]; simp [h,h2],?_⟩
 have:=cD0 h
 have:=rz0 ts
 simp only [List.length_append,List.length_cons,List.length_nil]; omega
theorem jz0 (s:Bs) (b:Bool):(within s b).length<=s.length + 2:=by unfold within; split <;> simp
theorem okE_index {op num:Int} {text:ByteArray} {slot:Int} {type:ByteArray} {at_:Int} {x y:Exq} {k1 k2:Nat} (h1:num < 9223372036854775808) (hx:OkE x k1) (hy:OkE y k2) :
  OkE (.mk 12 op num text slot type [x,y] at_) (k1 + k2):=by
 obtain ⟨a,h2,h3⟩:=hx.sh
 obtain ⟨b,h4,h5⟩:=hy.sh
 have hL:shL [x,y]=some [a,b]:=by simp [shL.eq_def,h2,h4]
 refine ⟨by rw [plE.eq_def]; simp [plL,hx.sz,hy.sz,h1],within a (oC0 x)++[91]++b++[93],by rw [shE.eq_def]; simp [hL],?_⟩
 have:=jz0 a (oC0 x)
 simp only [List.length_append,List.length_cons,List.length_nil]; omega
theorem okE_un {k op num:Int} {text:ByteArray} {slot:Int} {type:ByteArray} {at_:Int} {x:Exq} {k1:Nat} (hk:k=13\/k=14) (h1:num < 9223372036854775808) (hx:OkE x k1) :
  OkE (.mk k op num text slot type [x] at_) (k1 + 1):=by
 obtain ⟨a,h2,h3⟩:=hx.sh
 have hL:shL [x]=some [a]:=by simp [shL.eq_def,h2]
 refine ⟨by rw [plE.eq_def]; simp [plL,hx.sz,h1],(if k=13 then [45] else [33])++within a (decide (x.kind=15)),by rw [shE.eq_def]; rcases hk with rfl | rfl <;> simp [hL],?_⟩
 have:=jz0 a (decide (x.kind=15))
 rw [List.length_append]
 split <;> simp only [List.length_cons,List.length_nil] <;> omega
theorem opB_len (op:Int):(opB op).length<=2:=by
 unfold opB
 generalize op.toNat - 1=i
 by_cases h:i < 13
 ·have:∀ i < 13,(pOps.getD i []).length<=2:=by decide
  exact this i h
 ·rw [List.getD_eq_getElem?_getD,List.getElem?_eq_none (by simp [pOps,ci0]; omega)]; simp
theorem okE_bin {op num:Int} {text:ByteArray} {slot:Int} {type:ByteArray} {at_:Int} {x y:Exq} {k1 k2:Nat} (h1:num < 9223372036854775808) (ho:opOk op=true) (hx:OkE x k1) (hy:OkE y k2) :
  OkE (.mk 15 op num text slot type [x,y] at_) (k1 + k2):=by
 obtain ⟨a,h2,h3⟩:=hx.sh
 obtain ⟨b,h4,h5⟩:=hy.sh
 have hL:shL [x,y]=some [a,b]:=by simp [shL.eq_def,h2,h4]
 refine ⟨by rw [plE.eq_def]; simp [plL,hx.sz,hy.sz,h1],within a (dT0 x (if lvl op=3 then 4 else lvl op))++[32]++opB op++[32]++within b (dT0 y (lvl op + 1)),by rw [shE.eq_def]; simp [hL,ho],?_⟩
 have:=jz0 a (dT0 x (if lvl op=3 then 4 else lvl op))
 have:=jz0 b (dT0 y (lvl op + 1))
 have:=opB_len op
 simp only [List.length_append,List.length_cons,List.length_nil]; omega
theorem sa0 {l:Nat} {t:Tok} (h:ej0 l t=true):opOk ((pOps.idxOf (sB t.text):Nat) + 1)=true:=by
 unfold ej0 at h
 simp only [Bool.and_eq_true,decide_eq_true_eq] at h
 have hl:l < 5:=by
  rcases Nat.lt_or_ge l 5 with h5 | h5
  ·exact h5
  ·have h2:=h.2
   rw [List.getD_eq_getElem?_getD,List.getElem?_eq_none (by simp [ci0]; omega)] at h2
   simp at h2
 have hm:sB t.text ∈ pOps:=by
  have h2:sB t.text ∈ ci0.getD l []:=by simpa using h.2
  unfold pOps
  rw [List.mem_flatten]
  refine ⟨ci0.getD l [],?_,h2⟩
  rw [List.getD_eq_getElem?_getD,List.getElem?_eq_getElem (by simp [ci0]; omega)]
  exact List.getElem_mem _
 have:=List.idxOf_lt_length_of_mem hm
 have h13:pOps.length=13:=rfl
 unfold opOk
 simp only [decide_eq_true_eq]
 omega
end Go.Am
end

section
namespace Go.Am
set_option maxRecDepth 100000
variable {ts:List Tok}
theorem gR0 (hT:∀ n,mp0 (tk ts n)) {n:Nat} {a:Tok} {m:Nat} (h:dA0 ts n=.ok (a,m)):cS0 (sB a.text)=true/\m=n + 1:=by
 unfold dA0 at h
 split at h
 ·rename_i hk
  injection h with h; injection h with h1 h2; subst h1 h2
  exact ⟨(hT n).name hk.1 hk.2,rfl⟩
 ·cases h
structure OkX (ts:List Tok) (f:Nat):Prop where
 ex:∀ {d n:Nat} {a:Exq} {m:Nat},n < ts.length->b50 ts f d n=.ok (a,m)->OkE a (m - n)
 bin:∀ {l d n:Nat} {a:Exq} {m:Nat},n < ts.length->pBin ts f l d n=.ok (a,m)->OkE a (m - n)
 loop:∀ {l d:Nat} {out:Exq} {n k:Nat} {a:Exq} {m:Nat},n < ts.length->OkE out k->lq0 ts f l d out n=.ok (a,m)->OkE a (k + (m - n))
 un:∀ {d n:Nat} {a:Exq} {m:Nat},n < ts.length->pUn ts f d n=.ok (a,m)->OkE a (m - n)
 post:∀ {d:Nat} {out:Exq} {n k:Nat} {a:Exq} {m:Nat},n < ts.length->OkE out k->lr0 ts f d out n=.ok (a,m)->OkE a (k + (m - n))
 prim:∀ {d n:Nat} {a:Exq} {m:Nat},n < ts.length->jO0 ts f d n=.ok (a,m)->OkE a (m - n)
 args:∀ {d:Nat} {out:List Exq} {n k:Nat} {a:List Exq} {m:Nat},n < ts.length->OkL out k->iP0 ts f d out n=.ok (a,m)->OkL a (k + (m - n))
theorem okX (hE:TEnd ts) (hT:∀ n,mp0 (tk ts n)) (hL:ts.length < 1073741824):∀ f,OkX ts f
 | 0=>⟨fun _ h=>by simp [b50] at h,fun _ h=>by simp [pBin] at h,fun _ _ h=>by simp [lq0] at h,fun _ h=>by simp [pUn] at h,fun _ _ h=>by simp [lr0] at h,fun _ h=>by simp [jO0] at h,fun _ _ h=>by simp [iP0] at h⟩
 | f + 1=>by
  have ih:=okX hE hT hL f
  have ig:=ki0 hE f
  refine ⟨fun hn h=>?_,fun hn h=>?_,fun hn ho h=>?_,fun hn h=>?_,fun hn ho h=>?_,fun hn h=>?_,fun hn ho h=>?_⟩
  ·rw [b50] at h
   obtain ⟨_,_,h⟩:=ag0 h
   exact ih.bin hn h
  ·rw [pBin] at h
   split at h
   ·exact ih.un hn h
   ·obtain ⟨⟨b,n1⟩,e1,h⟩:=ag0 h
    have q1:=ig.bin hn e1
    have q2:=ig.loop q1.2 h
    exact (ih.loop q1.2 (ih.bin hn e1) h).mono (by dsimp only at *; omega)
  ·rw [lq0] at h
   split at h
   ·rename_i hi
    have h0:=hE _ hn (by rw [iK0 hi]; decide)
    obtain ⟨⟨b,n1⟩,e1,h⟩:=ag0 h
    have q1:=ig.bin h0 e1
    have hb:=fun (at_:Int)=>okE_bin (num:=0) (text:=bS []) (slot:=0) (type:=bS []) (at_:=at_) (by decide) (sa0 hi) ho (ih.bin h0 e1)
    dsimp only at *
    split at h
    ·split at h
     ·cases h
     ·injection h with h; injection h with h1 h2; subst h1 h2; exact (hb _).mono (by omega)
    ·have q2:=ig.loop q1.2 h
     exact (ih.loop q1.2 (hb _) h).mono (by omega)
   ·injection h with h; injection h with h1 h2; subst h1 h2; exact ho.mono (by omega)
  ·rw [pUn] at h
   split at h
   ·rename_i hi
    have h0:=aw0 hE hn hi (by decide)
    obtain ⟨_,_,h⟩:=ag0 h
    obtain ⟨⟨b,n1⟩,e1,h⟩:=ag0 h
    have q1:=ig.un h0 e1
    injection h with h; injection h with h1 h2; subst h1 h2
    exact (okE_un (.inl rfl) (by decide) (ih.un h0 e1)).mono (by dsimp only at *; omega)
   split at h
   ·rename_i hi
    have h0:=aw0 hE hn hi (by decide)
    obtain ⟨_,_,h⟩:=ag0 h
    obtain ⟨⟨b,n1⟩,e1,h⟩:=ag0 h
    have q1:=ig.un h0 e1
    injection h with h; injection h with h1 h2; subst h1 h2
    exact (okE_un (.inr rfl) (by decide) (ih.un h0 e1)).mono (by dsimp only at *; omega)
   ·obtain ⟨⟨b,n1⟩,e1,h⟩:=ag0 h
    have q1:=ig.prim hn e1
    have q2:=ig.post q1.2 h
    exact (ih.post q1.2 (ih.prim hn e1) h).mono (by dsimp only at *; omega)
  ·rw [lr0] at h
   split at h
   ·rename_i hi
    have h0:=aw0 hE hn hi (by decide)
    obtain ⟨⟨b,n1⟩,e1,h⟩:=ag0 h
    obtain ⟨n2,e2,h⟩:=ag0 h
    have q1:=ig.ex h0 e1
    have q2:=ak0 hE q1.2 e2
    have q3:=ig.post q2.2 h
    exact (ih.post q2.2 (okE_index (by decide) ho (ih.ex h0 e1)) h).mono (by dsimp only at *; omega)
   ·injection h with h; injection h with h1 h2; subst h1 h2; exact ho.mono (by omega)
  ·rw [jO0] at h
   split at h
   ·rename_i hk
    have hx:=(hT _).num hk
    injection h with h; injection h with h1 h2; subst h1 h2; exact (okE_int hx.1 hx.2).mono (by omega)
   split at h
   ·rename_i hk
    have hx:=(hT _).text hk
    injection h with h; injection h with h1 h2; subst h1 h2; exact (okE_text (by decide) hx).mono (by omega)
   split at h
   ·injection h with h; injection h with h1 h2; subst h1 h2; exact (rq0 (.inr rfl)).mono (by omega)
   split at h
   ·injection h with h; injection h with h1 h2; subst h1 h2; exact (rq0 (.inl rfl)).mono (by omega)
   split at h
   ·rename_i hi
    have h0:=aw0 hE hn hi (by decide)
    obtain ⟨⟨b,n1⟩,e1,h⟩:=ag0 h
    obtain ⟨n2,e2,h⟩:=ag0 h
    have q1:=ig.ex h0 e1
    have q2:=ak0 hE q1.2 e2
    injection h with h; injection h with h1 h2; subst h1 h2
    exact (ih.ex h0 e1).mono (by dsimp only at *; omega)
   ·obtain ⟨⟨b,n1⟩,e1,h⟩:=ag0 h
    have q1:=a00 hE hn e1
    obtain ⟨hnm,rfl⟩:=gR0 hT e1
    split at h
    ·rename_i hi
     have h0:=aw0 hE q1.2 hi (by decide)
     split at h
     ·injection h with h; injection h with h1 h2; subst h1 h2
      exact (rr0 (by decide) hnm (.nil 0) (by decide)).mono (by omega)
     ·obtain ⟨⟨b2,n2⟩,e4,h⟩:=ag0 h
      have q2:=ig.args h0 e4
      injection h with h; injection h with h1 h2; subst h1 h2
      exact (rr0 (by decide) hnm (ih.args h0 (.nil 0) e4) (by dsimp only at *; omega)).mono (by dsimp only at *; omega)
    ·injection h with h; injection h with h1 h2; subst h1 h2
     exact (okE_name (by decide) hnm).mono (by omega)
  ·rw [iP0] at h
   obtain ⟨⟨b,n1⟩,e1,h⟩:=ag0 h
   have q1:=ig.ex hn e1
   dsimp only at *
   have hx:=ho.snoc (ih.ex hn e1) (by omega)
   split at h
   ·injection h with h; injection h with h1 h2; subst h1 h2; exact hx.mono (by omega)
   ·obtain ⟨n2,e2,h⟩:=ag0 h
    have q2:=ak0 hE q1.2 e2
    have q3:=ig.args q2.2 h
    exact (ih.args q2.2 hx h).mono (by omega)
end Go.Am
end

section
namespace Go.Am
set_option maxRecDepth 100000
variable {ts:List Tok}
theorem nZ0:∀ (l:List Stm) (x:Stm),plB (l++[x])=(plB l && plS x)
 | [],x=>by simp [plB]
 | y :: l,x=>by simp only [List.cons_append,plB,nZ0 l x,Bool.and_assoc]
structure OkS (x:Stm) (k d:Nat):Prop where
 sz:plS x=true
 sh:∀ n,n<=d + 1->∃ t,shS n x=some t/\t.length + 100<=1000 * k
structure OkT (l:List Stm) (k d:Nat):Prop where
 sz:plB l=true
 len:l.length<=k
 sh:∀ n,n<=d->∃ t,shT n l=some t/\t.length<=1000 * k
structure OkB (l:List Stm) (k d:Nat):Prop where
 sz:plB l=true
 len:l.length<=k
 sh:∀ n,n<=d->∃ t,shB n l=some t/\t.length + 100<=1000 * k
theorem OkS.mono {x:Stm} {k k' d:Nat} (h:OkS x k d) (hk:k<=k'):OkS x k' d:=⟨h.sz,fun n hn=>by obtain ⟨t,h1,h2⟩:=h.sh n hn; exact ⟨t,h1,by omega⟩⟩
theorem OkT.mono {x:List Stm} {k k' d:Nat} (h:OkT x k d) (hk:k<=k'):OkT x k' d:=⟨h.sz,by have:=h.len; omega,fun n hn=>by obtain ⟨t,h1,h2⟩:=h.sh n hn; exact ⟨t,h1,by omega⟩⟩
theorem OkT.nil (k d:Nat):OkT [] k d:=⟨rfl,by simp,fun n hn=>⟨[],by rw [shT.eq_def],by simp⟩⟩
theorem n70 {n:Nat}:∀ {l:List Stm} {x:Stm} {t a:Bs},shT n l=some t->shS (n + 1) x=some a->shT n (l++[x])=some (t++(tabs (n + 1)++a++[10]))
 | [],x,t,a,h,h2=>by
  rw [shT.eq_def] at h; injection h with h; subst h
  rw [List.nil_append,shT.eq_def]; dsimp only; rw [h2,shT.eq_def]; simp
 | y :: l,x,t,a,h,h2=>by
  rw [shT.eq_def] at h
  dsimp only at h
  split at h
  ·rename_i a' b ha hb
   injection h with h; subst h
   rw [List.cons_append,shT.eq_def]; dsimp only
   rw [ha,n70 hb h2]; simp
  ·cases h
theorem OkT.snoc {l:List Stm} {x:Stm} {k k2 d:Nat} (h:OkT l k d) (hx:OkS x k2 d) (hd:d<=24):OkT (l++[x]) (k + k2) d:=by
 have:=h.len
 have h1k:1<=k2:=by
  obtain ⟨t,_,h4⟩:=hx.sh 0 (by omega)
  omega
 refine ⟨by rw [nZ0,h.sz,hx.sz]; rfl,by simp; omega,fun n hn=>?_⟩
 obtain ⟨t,h1,h2⟩:=h.sh n hn
 obtain ⟨a,h3,h4⟩:=hx.sh (n + 1) (by omega)
 refine ⟨_,n70 h1 h3,?_⟩
 have:(tabs (n + 1)).length=n + 1:=by simp [tabs]
 simp only [List.length_append,List.length_cons,List.length_nil]; omega
theorem OkT.block {l:List Stm} {k d:Nat} (h:OkT l k d) (hd:d<=24):OkB l (k + 1) d:=by
 refine ⟨h.sz,by have:=h.len; omega,fun n hn=>?_⟩
 cases l with
 | nil=>exact ⟨[123,125],by rw [shB.eq_def],by simp; omega⟩
 | cons x l =>
  obtain ⟨t,h1,h2⟩:=h.sh n hn
  refine ⟨[123,10]++t++tabs n++[125],by rw [o20,h1]; rfl,?_⟩
  have:(tabs n).length=n:=by simp [tabs]
  simp only [List.length_append,List.length_cons,List.length_nil]; omega
theorem lA0 {x:Exq} {a:Bs} (h:shE x=some a):shL [x]=some [a]:=by simp [shL.eq_def,h]
theorem shL_two {x y:Exq} {a b:Bs} (h:shE x=some a) (h2:shE y=some b):shL [x,y]=some [a,b]:=by simp [shL.eq_def,h,h2]
theorem okS_let {name:ByteArray} {x:Exq} {k d:Nat} {at_:Int} (hn:cS0 (sB name)=true) (hx:OkE x k):OkS (stm0 1 name [x] [] [] at_) (k + 1) d:=by
 obtain ⟨a,h1,h2⟩:=hx.sh
 refine ⟨by unfold stm0; rw [plS.eq_def]; simp [plL,plB,hx.sz],fun n _=>⟨e30++[32]++sB name++[32,61,32]++a++[59],by unfold stm0; rw [shS.eq_def]; simp [lA0 h1,hn],?_⟩⟩
 have:=cD0 hn
 simp only [List.length_append,List.length_cons,List.length_nil,e30]; omega
theorem okS_set {name:ByteArray} {x:Exq} {k d:Nat} {at_:Int} (hn:cS0 (sB name)=true) (hx:OkE x k):OkS (stm0 2 name [x] [] [] at_) (k + 1) d:=by
 obtain ⟨a,h1,h2⟩:=hx.sh
 refine ⟨by unfold stm0; rw [plS.eq_def]; simp [plL,plB,hx.sz],fun n _=>⟨dE0++[32]++sB name++[32,61,32]++a++[59],by unfold stm0; rw [shS.eq_def]; simp [lA0 h1,hn],?_⟩⟩
 have:=cD0 hn
 simp only [List.length_append,List.length_cons,List.length_nil,dE0]; omega
theorem okS_put {name:ByteArray} {x y:Exq} {k k2 d:Nat} {at_:Int} (hn:cS0 (sB name)=true) (hx:OkE x k) (hy:OkE y k2):OkS (stm0 2 name [x,y] [] [] at_) (k + k2 + 1) d:=by
 obtain ⟨a,h1,h2⟩:=hx.sh
 obtain ⟨b,h3,h4⟩:=hy.sh
 refine ⟨by unfold stm0; rw [plS.eq_def]; simp [plL,plB,hx.sz,hy.sz],fun n _=>⟨dE0++[32]++sB name++[91]++a++[93]++[32,61,32]++b++[59],by unfold stm0; rw [shS.eq_def]; simp [shL_two h1 h3,hn],?_⟩⟩
 have:=cD0 hn
 simp only [List.length_append,List.length_cons,List.length_nil,dE0]; omega
theorem okS_del {name:ByteArray} {x:Exq} {k d:Nat} {at_:Int} (hn:cS0 (sB name)=true) (hx:OkE x k):OkS (stm0 3 name [x] [] [] at_) (k + 1) d:=by
 obtain ⟨a,h1,h2⟩:=hx.sh
 refine ⟨by unfold stm0; rw [plS.eq_def]; simp [plL,plB,hx.sz],fun n _=>⟨e00++[32]++sB name++[91]++a++[93,59],by unfold stm0; rw [shS.eq_def]; simp [lA0 h1,hn],?_⟩⟩
 have:=cD0 hn
 simp only [List.length_append,List.length_cons,List.length_nil,e00]; omega
theorem okS_if {name:ByteArray} {x:Exq} {k kb kc d:Nat} {body els:List Stm} {at_:Int} (hx:OkE x k) (hb:OkB body kb (d + 1)) (hc:els=[]\/OkB els kc (d + 1)) (hk:kb + kc < 1073741824) :
  OkS (stm0 4 name [x] body els at_) (k + kb + kc + 1) d:=by
 obtain ⟨a,h1,h2⟩:=hx.sh
 have hbl:=hb.len
 have hcz:plB els=true/\els.length < 1073741824:=by
  rcases hc with rfl | hc
  ·exact ⟨rfl,by simp⟩
  ·exact ⟨hc.sz,by have:=hc.len; omega⟩
 refine ⟨by unfold stm0; rw [plS.eq_def]; simp [plL,hb.sz,hcz.1,hx.sz,hcz.2]; omega,fun n hn=>?_⟩
 obtain ⟨b,h3,h4⟩:=hb.sh n hn
 have hcs:∃ c,shB n els=some c/\(if els=[] then ([]:Bs) else [32]++co0++[32]++c).length<=1000 * kc:=by
  by_cases he:els=[]
  ·subst he; exact ⟨[123,125],by rw [shB.eq_def],by simp⟩
  ·rcases hc with hc | hc
   ·exact absurd hc he
   ·obtain ⟨c,h5,h6⟩:=hc.sh n hn
    refine ⟨c,h5,?_⟩
    rw [if_neg he]; simp only [List.length_append,List.length_cons,List.length_nil,co0]; omega
 obtain ⟨c,h5,h6⟩:=hcs
 refine ⟨kwIf++[32]++a++[32]++b++(if els=[] then [] else [32]++co0++[32]++c),by unfold stm0; rw [shS.eq_def]; simp [lA0 h1,h3,h5],?_⟩
 rw [List.length_append]
 generalize (if els=[] then ([]:Bs) else [32]++co0++[32]++c).length=q at *
 simp only [List.length_append,List.length_cons,List.length_nil,kwIf]; omega
theorem okS_for {name:ByteArray} {x:Exq} {k kb d:Nat} {body:List Stm} {at_:Int} (hn:cS0 (sB name)=true) (hx:OkE x k) (hb:OkB body kb (d + 1)) (hk:kb < 1073741824) :
  OkS (stm0 5 name [x] body [] at_) (k + kb + 1) d:=by
 obtain ⟨a,h1,h2⟩:=hx.sh
 have hbl:=hb.len
 have:=cD0 hn
 refine ⟨by unfold stm0; rw [plS.eq_def]; simp [plL,hb.sz,plB,hx.sz]; omega,fun n hn'=>?_⟩
 obtain ⟨b,h3,h4⟩:=hb.sh n hn'
 refine ⟨e20++[32]++sB name++[32]++kwTo++[32]++a++[32]++b,by unfold stm0; rw [shS.eq_def]; simp [lA0 h1,h3,hn],?_⟩
 simp only [List.length_append,List.length_cons,List.length_nil,e20,kwTo]; omega
theorem okS_ret {name:ByteArray} {x:Exq} {k d:Nat} {at_:Int} (hx:OkE x k):OkS (stm0 6 name [x] [] [] at_) (k + 1) d:=by
 obtain ⟨a,h1,h2⟩:=hx.sh
 refine ⟨by unfold stm0; rw [plS.eq_def]; simp [plL,plB,hx.sz],fun n _=>⟨e40++[32]++a++[59],by unfold stm0; rw [shS.eq_def]; simp [lA0 h1],?_⟩⟩
 simp only [List.length_append,List.length_cons,List.length_nil,e40]; omega
end Go.Am
end

section
namespace Go.Am
set_option maxRecDepth 100000
variable {ts:List Tok}
theorem pDeep_le {n d:Nat} {u:Unit} (h:km0 ts n d=.ok u):d<=24:=by
 unfold km0 at h
 split at h
 ·cases h
 ·exact Nat.le_of_not_lt ‹_›
structure OkG (ts:List Tok) (f:Nat):Prop where
 block:∀ {d n:Nat} {a:List Stm} {m:Nat},n < ts.length->cf0 ts f d n=.ok (a,m)->OkB a (m - n) d
 stms:∀ {d:Nat} {out:List Stm} {n k:Nat} {a:List Stm} {m:Nat},n < ts.length->d<=24->OkT out k d->lt0 ts f d out n=.ok (a,m)->OkT a (k + (m - n)) d
 stm:∀ {d n:Nat} {a:Stm} {m:Nat},n < ts.length->pStm ts f d n=.ok (a,m)->OkS a (m - n) d
theorem okG (hE:TEnd ts) (hT:∀ n,mp0 (tk ts n)) (hL:ts.length < 1073741824):∀ f,OkG ts f
 | 0=>⟨fun _ h=>by simp [cf0] at h,fun _ _ _ h=>by simp [lt0] at h,fun _ h=>by simp [pStm] at h⟩
 | f + 1=>by
  have ih:=okG hE hT hL f
  have io:=okX hE hT hL f
  have ix:=ki0 hE f
  have is:=mL0 hE f
  refine ⟨fun hn h=>?_,fun hn hd ho h=>?_,fun hn h=>?_⟩
  ·rw [cf0] at h
   obtain ⟨_,e0,h⟩:=ag0 h
   obtain ⟨n1,e1,h⟩:=ag0 h
   have hd:=pDeep_le e0
   have q1:=ak0 hE hn e1
   have q2:=is.stms q1.2 h
   have:=(ih.stms q1.2 hd (.nil 0 _) h).block hd
   exact ⟨this.sz,by have:=this.len; omega,fun n hn=>by obtain ⟨t,h1,h2⟩:=this.sh n hn; exact ⟨t,h1,by omega⟩⟩
  ·rw [lt0] at h
   split at h
   ·injection h with h; injection h with h1 h2; subst h1 h2; exact ho.mono (by omega)
   ·obtain ⟨⟨s,n1⟩,e1,h⟩:=ag0 h
    have q1:=is.stm hn e1
    have q2:=is.stms q1.2 h
    exact (ih.stms q1.2 hd (ho.snoc (ih.stm hn e1) hd) h).mono (by dsimp only at *; omega)
  ·rw [pStm] at h
   split at h
   ·rename_i hi
    have h0:=aw0 hE hn hi (by decide)
    obtain ⟨⟨t,n1⟩,e1,h⟩:=ag0 h
    obtain ⟨n2,e2,h⟩:=ag0 h
    obtain ⟨⟨x,n3⟩,e3,h⟩:=ag0 h
    obtain ⟨n4,e4,h⟩:=ag0 h
    have q1:=a00 hE h0 e1
    have q2:=ak0 hE q1.2 e2
    have q3:=ix.ex q2.2 e3
    have q4:=ak0 hE q3.2 e4
    injection h with h; injection h with h1 h2; subst h1 h2
    exact (okS_let (gR0 hT e1).1 (io.ex q2.2 e3)).mono (by dsimp only at *; omega)
   split at h
   ·rename_i hi
    have h0:=aw0 hE hn hi (by decide)
    obtain ⟨⟨t,n1⟩,e1,h⟩:=ag0 h
    have q1:=a00 hE h0 e1
    split at h
    ·rename_i hi2
     have h00:=aw0 hE q1.2 hi2 (by decide)
     obtain ⟨⟨x,n3⟩,e3,h⟩:=ag0 h
     obtain ⟨n4,e4,h⟩:=ag0 h
     obtain ⟨n5,e5,h⟩:=ag0 h
     obtain ⟨⟨y,n6⟩,e6,h⟩:=ag0 h
     obtain ⟨n7,e7,h⟩:=ag0 h
     have q3:=ix.ex h00 e3
     have q4:=ak0 hE q3.2 e4
     have q5:=ak0 hE q4.2 e5
     have q6:=ix.ex q5.2 e6
     have q7:=ak0 hE q6.2 e7
     injection h with h; injection h with h1 h2; subst h1 h2
     exact (okS_put (gR0 hT e1).1 (io.ex h00 e3) (io.ex q5.2 e6)).mono (by dsimp only at *; omega)
    ·obtain ⟨n2,e2,h⟩:=ag0 h
     obtain ⟨⟨x,n3⟩,e3,h⟩:=ag0 h
     obtain ⟨n4,e4,h⟩:=ag0 h
     have q2:=ak0 hE q1.2 e2
     have q3:=ix.ex q2.2 e3
     have q4:=ak0 hE q3.2 e4
     injection h with h; injection h with h1 h2; subst h1 h2
     exact (okS_set (gR0 hT e1).1 (io.ex q2.2 e3)).mono (by dsimp only at *; omega)
   split at h
   ·rename_i hi
    have h0:=aw0 hE hn hi (by decide)
    obtain ⟨⟨t,n1⟩,e1,h⟩:=ag0 h
    obtain ⟨n2,e2,h⟩:=ag0 h
    obtain ⟨⟨x,n3⟩,e3,h⟩:=ag0 h
    obtain ⟨n4,e4,h⟩:=ag0 h
    obtain ⟨n5,e5,h⟩:=ag0 h
    have q1:=a00 hE h0 e1
    have q2:=ak0 hE q1.2 e2
    have q3:=ix.ex q2.2 e3
    have q4:=ak0 hE q3.2 e4
    have q5:=ak0 hE q4.2 e5
    injection h with h; injection h with h1 h2; subst h1 h2
    exact (okS_del (gR0 hT e1).1 (io.ex q2.2 e3)).mono (by dsimp only at *; omega)
   split at h
   ·rename_i hi
    have h0:=aw0 hE hn hi (by decide)
    obtain ⟨⟨x,n1⟩,e1,h⟩:=ag0 h
    have q1:=ix.ex h0 e1
    obtain ⟨⟨b,n2⟩,e2,h⟩:=ag0 h
    have q2:=is.block q1.2 e2
    split at h
    ·rename_i hi2
     have h00:=aw0 hE q2.2 hi2 (by decide)
     obtain ⟨⟨c,n3⟩,e3,h⟩:=ag0 h
     have q3:=is.block h00 e3
     injection h with h; injection h with h1 h2; subst h1 h2
     exact (okS_if (io.ex h0 e1) (ih.block q1.2 e2) (.inr (ih.block h00 e3)) (by dsimp only at *; omega)).mono (by dsimp only at *; omega)
    ·injection h with h; injection h with h1 h2; subst h1 h2
     exact (okS_if (kc:=0) (io.ex h0 e1) (ih.block q1.2 e2) (.inl rfl) (by dsimp only at *; omega)).mono (by dsimp only at *; omega)
   split at h
   ·rename_i hi
    have h0:=aw0 hE hn hi (by decide)
    obtain ⟨⟨t,n1⟩,e1,h⟩:=ag0 h
    obtain ⟨n2,e2,h⟩:=ag0 h
    obtain ⟨⟨x,n3⟩,e3,h⟩:=ag0 h
    obtain ⟨⟨b,n4⟩,e4,h⟩:=ag0 h
    have q1:=a00 hE h0 e1
    have q2:=kW0 hE q1.2 e2
    have q3:=ix.ex q2.2 e3
    have q4:=is.block q3.2 e4
    injection h with h; injection h with h1 h2; subst h1 h2
    exact (okS_for (gR0 hT e1).1 (io.ex q2.2 e3) (ih.block q3.2 e4) (by dsimp only at *; omega)).mono (by dsimp only at *; omega)
   split at h
   ·rename_i hi
    have h0:=aw0 hE hn hi (by decide)
    obtain ⟨⟨x,n1⟩,e1,h⟩:=ag0 h
    obtain ⟨n2,e2,h⟩:=ag0 h
    have q1:=ix.ex h0 e1
    have q2:=ak0 hE q1.2 e2
    injection h with h; injection h with h1 h2; subst h1 h2
    exact (okS_ret (io.ex h0 e1)).mono (by dsimp only at *; omega)
   ·cases h
theorem pKey_ty {n:Nat} {a:Bs} {m:Nat} (h:pKey ts n=.ok (a,m)):a=gB0\/a=dk0:=by
 unfold pKey at h
 split at h
 ·injection h with h; injection h with h1 h2; exact .inl h1.symm
 split at h
 ·injection h with h; injection h with h1 h2; exact .inr h1.symm
 ·cases h
theorem oM0:∀ {r n:Nat} {a:Bs} {m:Nat},fI0 ts r n=.ok (a,m)->∃ d,IsTy d a/\d<=r
 | 0,n,a,m,h=>by simp [fI0,e70] at h
 | r + 1,n,a,m,h=>by
  rw [fI0] at h
  split at h
  ·injection h with h; injection h with h1 h2; subst h1; exact ⟨1,.base (by decide),by omega⟩
  split at h
  ·obtain ⟨⟨b,n1⟩,e1,h⟩:=ag0 h
   obtain ⟨n2,e2,h⟩:=ag0 h
   injection h with h; injection h with h1 h2; subst h1
   obtain ⟨d,hd,hr⟩:=oM0 e1
   exact ⟨d + 1,.list hd,by omega⟩
  split at h
  ·obtain ⟨⟨k,n0⟩,e0,h⟩:=ag0 h
   obtain ⟨n1,e1,h⟩:=ag0 h
   obtain ⟨⟨b,n2⟩,e2,h⟩:=ag0 h
   obtain ⟨n3,e3,h⟩:=ag0 h
   injection h with h; injection h with h1 h2; subst h1
   obtain ⟨d,hd,hr⟩:=oM0 e2
   rcases pKey_ty e0 with rfl | rfl
   ·exact ⟨d + 1,.mapI hd,by omega⟩
   ·exact ⟨d + 1,.mapT hd,by omega⟩
  ·rcases pKey_ty h with rfl | rfl
   ·exact ⟨1,.base (by decide),by omega⟩
   ·exact ⟨1,.base (by decide),by omega⟩
theorem mZ0 {n:Nat} {a:Bs} {m:Nat} (h:fI0 ts 4 n=.ok (a,m)):qg0 a=true/\a.length<=28:=by
 obtain ⟨d,hd,hr⟩:=oM0 h
 refine ⟨?_,?_⟩
 ·unfold qg0; rw [tyB_ty hd]; simp; omega
 ·have:a.length<=7 * d:=by
   clear h hr
   induction hd with
   | base h=>rcases gW0 h with rfl | rfl | rfl <;> simp [gB0,ek0,dk0]
   | list h ih=>simp; omega
   | mapI h ih=>simp [dl0]; omega
   | mapT h ih=>simp [cj0]; omega
  omega
theorem rs0 (hT:∀ n,mp0 (tk ts n)) {n:Nat} {a:Slo} {m:Nat} (h:ko0 ts n=.ok (a,m)):∃ t,gT0 a=some t/\t.length<=60:=by
 unfold ko0 at h
 obtain ⟨⟨t,n1⟩,e1,h⟩:=ag0 h
 obtain ⟨n2,e2,h⟩:=ag0 h
 obtain ⟨⟨k,n3⟩,e3,h⟩:=ag0 h
 injection h with h; injection h with h1 h2; subst h1
 have hn:=(gR0 hT e1).1
 have hk:=mZ0 e3
 refine ⟨sB t.text++[58,32]++k,by unfold gT0; simp [hn,hk.1],?_⟩
 have:=cD0 hn
 simp only [List.length_append,List.length_cons,List.length_nil]; omega
end Go.Am
end

section
namespace Go.Am
set_option maxRecDepth 100000
variable {ts:List Tok}
theorem j70:∀ {l:List Slo} {x:Slo} {ps:List Bs} {t:Bs},ck0 l=some ps->gT0 x=some t->ck0 (l++[x])=some (ps++[t])
 | [],x,ps,t,h,h2=>by
  rw [ck0.eq_def] at h; injection h with h; subst h
  rw [List.nil_append,ck0.eq_def]; dsimp only; rw [h2,ck0.eq_def]; rfl
 | y :: l,x,ps,t,h,h2=>by
  rw [ck0.eq_def] at h
  dsimp only at h
  split at h
  ·rename_i a b ha hb
   injection h with h; subst h
   rw [List.cons_append,ck0.eq_def]; dsimp only
   rw [ha,j70 hb h2]; rfl
  ·cases h
theorem i00:∀ {l:List Slo} {x:Slo} {a t:Bs},b00 l=some a->gT0 x=some t->b00 (l++[x])=some (a++(el0++[32]++t++[59,10]))
 | [],x,a,t,h,h2=>by
  rw [b00.eq_def] at h; injection h with h; subst h
  rw [List.nil_append,b00.eq_def]; dsimp only; rw [h2,b00.eq_def]; simp
 | y :: l,x,a,t,h,h2=>by
  rw [b00.eq_def] at h
  dsimp only at h
  split at h
  ·rename_i b c ha hb
   injection h with h; subst h
   rw [List.cons_append,b00.eq_def]; dsimp only
   rw [ha,i00 hb h2]; simp
  ·cases h
theorem k40:∀ {l:List Fun} {x:Fun} {a t:Bs},ez0 l=some a->nG0 x=some t->ez0 (l++[x])=some (a++t)
 | [],x,a,t,h,h2=>by
  rw [ez0.eq_def] at h; injection h with h; subst h
  rw [List.nil_append,ez0.eq_def]; dsimp only; rw [h2,ez0.eq_def]; simp
 | y :: l,x,a,t,h,h2=>by
  rw [ez0.eq_def] at h
  dsimp only at h
  split at h
  ·rename_i b c ha hb
   injection h with h; subst h
   rw [List.cons_append,ez0.eq_def]; dsimp only
   rw [ha,k40 hb h2]; simp
  ·cases h
structure OkPs (l:List Slo) (k:Nat):Prop where
 len:l.length<=k
 sh:∃ ps,ck0 l=some ps/\(ps.map fun t=>t.length + 2).sum<=100 * k
theorem OkPs.nil:OkPs [] 0:=⟨by simp,[],by rw [ck0.eq_def],by simp⟩
theorem OkPs.snoc {l:List Slo} {x:Slo} {k:Nat} (h:OkPs l k) (hx:∃ t,gT0 x=some t/\t.length<=60):OkPs (l++[x]) (k + 1):=by
 obtain ⟨t,h1,h2⟩:=hx
 obtain ⟨ps,h3,h4⟩:=h.sh
 have:=h.len
 refine ⟨by simp; omega,_,j70 h3 h1,?_⟩
 rw [List.map_append,List.sum_append]; simp; omega
theorem nW0 (hE:TEnd ts) (hT:∀ n,mp0 (tk ts n)):∀ {f:Nat} {out:List Slo} {n k:Nat},n < ts.length->OkPs out k->∀ {a:List Slo} {m:Nat},c80 ts f out n=.ok (a,m)->OkPs a (k + (m - n))
 | 0,out,n,k,hn,ho,a,m,h=>by simp [c80] at h
 | f + 1,out,n,k,hn,ho,a,m,h=>by
  rw [c80] at h
  obtain ⟨⟨s,n1⟩,e1,h⟩:=ag0 h
  have q1:=ia0 hE hn e1
  have hs:=ho.snoc (rs0 hT e1)
  have mono:∀ {l:List Slo} {k k':Nat},OkPs l k->k<=k'->OkPs l k':=fun h hk=>⟨by have:=h.len; omega,by obtain ⟨t,h1,h2⟩:=h.sh; exact ⟨t,h1,by omega⟩⟩
  dsimp only at *
  split at h
  ·injection h with h; injection h with h1 h2; subst h1 h2; exact mono hs (by omega)
  ·obtain ⟨n2,e2,h⟩:=ag0 h
   have q2:=ak0 hE q1.2 e2
   have q3:=fL0 hE q2.2 h
   exact mono (nW0 hE hT q2.2 hs h) (by omega)
structure OkF (f:Fun) (k:Nat):Prop where
 lo:f.locals=[]
 ps:f.params.length<=k
 b:f.body.length<=k
 sz:plB f.body=true
 sh:∃ t,nG0 f=some t/\t.length<=1000 * k
theorem pFun_ok (hE:TEnd ts) (hT:∀ n,mp0 (tk ts n)) (hL:ts.length < 1073741824) {n:Nat} (hn:n < ts.length) {f:Nat} {on:Bool} {a:Fun} {m:Nat} (h:pFun ts f on n=.ok (a,m)):OkF a (m - n):=by
 have hlt:=kn0 hE hn h
 unfold pFun at h
 obtain ⟨⟨t,n1⟩,e1,h⟩:=ag0 h
 obtain ⟨n2,e2,h⟩:=ag0 h
 obtain ⟨⟨ps,n3⟩,e3,h⟩:=ag0 h
 obtain ⟨n4,e4,h⟩:=ag0 h
 obtain ⟨⟨k,n5⟩,e5,h⟩:=ag0 h
 obtain ⟨⟨b,n6⟩,e6,h⟩:=ag0 h
 have q1:=a00 hE hn e1
 have q2:=ak0 hE q1.2 e2
 dsimp only at *
 have q3:n2 < n3/\n3 < ts.length/\OkPs ps (n3 - n2):=by
  split at e3
  ·rename_i hi
   have h0:=aw0 hE q2.2 hi (by decide)
   injection e3 with e3; injection e3 with h1 h2; subst h1 h2
   exact ⟨by omega,h0,by simp,[],by rw [ck0.eq_def],by simp⟩
  ·have:=fL0 hE q2.2 e3
   have h2:=nW0 hE hT q2.2 .nil e3
   rw [Nat.zero_add] at h2
   exact ⟨this.1,this.2,h2⟩
 have q4:=ak0 hE q3.2.1 e4
 have q5:=eN0 hE q4.2 e5
 have q6:=(mL0 hE f).block q5.2.1 e6
 have hb:=(okG hE hT hL f).block q5.2.1 e6
 have hk:=mZ0 e5
 have hnm:=(gR0 hT e1).1
 injection h with h; injection h with h1 h2; subst h1 h2
 obtain ⟨pt,h3,h4⟩:=q3.2.2.sh
 obtain ⟨bt,h5,h6⟩:=hb.sh 0 (by omega)
 have hpl:=q3.2.2.len
 have hbl:=hb.len
 refine ⟨rfl,by dsimp only; omega,by dsimp only; omega,hb.sz,(if on then kwOn else kwFn)++[32]++sB t.text++[40]++sepB pt++[41,58,32]++k++[32]++bt++[10],by unfold nG0; simp [h3,h5,hk.1,hnm],?_⟩
 have:=cD0 hnm
 have:=rz0 pt
 have h2:(if on then kwOn else kwFn).length=2:=by cases on <;> rfl
 simp only [List.length_append,List.length_cons,List.length_nil,h2]; omega
structure OkP (p:Prg) (k:Nat):Prop where
 v0:0<=p.version
 v1:p.version < 9223372036854775808
 sl:p.bN0.length<=k
 fl:p.fns.length<=k
 st:∃ a,b00 p.bN0=some a/\a.length<=1000 * k
 ft:∃ b,ez0 p.fns=some b/\b.length<=1000 * k
 fs:∀ f ∈ p.fns,∃ j,OkF f j/\j<=k
theorem OkP.mono {p:Prg} {k k':Nat} (h:OkP p k) (hk:k<=k'):OkP p k' :=
 ⟨h.v0,h.v1,by have:=h.sl; omega,by have:=h.fl; omega,by obtain ⟨t,h1,h2⟩:=h.st; exact ⟨t,h1,by omega⟩,by obtain ⟨t,h1,h2⟩:=h.ft; exact ⟨t,h1,by omega⟩,
  fun f hf=>by obtain ⟨j,h1,h2⟩:=h.fs f hf; exact ⟨j,h1,by omega⟩⟩
theorem OkP.state {p:Prg} {k:Nat} (h:OkP p k) {x:Slo} (hx:∃ t,gT0 x=some t/\t.length<=60):OkP { p with bN0:=p.bN0++[x] } (k + 1):=by
 obtain ⟨t,h1,h2⟩:=hx
 obtain ⟨a,h3,h4⟩:=h.st
 have:=h.sl; have:=h.fl
 refine ⟨h.v0,h.v1,by simp; omega,by dsimp only; omega,⟨_,i00 h3 h1,?_⟩,by obtain ⟨t,h1,h2⟩:=h.ft; exact ⟨t,h1,by omega⟩,fun f hf=>by obtain ⟨j,h1,h2⟩:=h.fs f hf; exact ⟨j,h1,by omega⟩⟩
 simp only [List.length_append,List.length_cons,List.length_nil,el0]; omega
theorem OkP.fn {p:Prg} {k j:Nat} (h:OkP p k) {x:Fun} (hx:OkF x j) (hj:1<=j):OkP { p with fns:=p.fns++[x] } (k + j):=by
 obtain ⟨t,h1,h2⟩:=hx.sh
 obtain ⟨a,h3,h4⟩:=h.ft
 have:=h.sl; have:=h.fl
 refine ⟨h.v0,h.v1,by dsimp only; omega,by simp; omega,by obtain ⟨t,h1,h2⟩:=h.st; exact ⟨t,h1,by omega⟩,⟨_,k40 h3 h1,?_⟩,fun f hf=>?_⟩
 ·simp only [List.length_append]; omega
 ·rcases List.mem_append.1 hf with hf | hf
  ·obtain ⟨j,h1,h2⟩:=h.fs f hf; exact ⟨j,h1,by omega⟩
  ·obtain rfl:=List.mem_singleton.1 hf; exact ⟨j,hx,by omega⟩
theorem mg0 (hE:TEnd ts) (hT:∀ n,mp0 (tk ts n)) (hL:ts.length < 1073741824):∀ {f:Nat} {p:Prg} {n k:Nat},n < ts.length->OkP p k->∀ {a:Prg} {m:Nat},l30 ts f p n=.ok (a,m)->∃ j,OkP a (k + j)/\n + j < ts.length
 | 0,p,n,k,hn,ho,a,m,h=>by simp [l30] at h
 | f + 1,p,n,k,hn,ho,a,m,h=>by
  rw [l30] at h
  split at h
  ·injection h with h; injection h with h1 h2; subst h1; exact ⟨0,ho,hn⟩
  split at h
  ·rename_i hi
   have h0:=aw0 hE hn hi (by decide)
   obtain ⟨⟨s,n1⟩,e1,h⟩:=ag0 h
   obtain ⟨n2,e2,h⟩:=ag0 h
   have q1:=ia0 hE h0 e1
   have q2:=ak0 hE q1.2 e2
   obtain ⟨j,h1,h2⟩:=mg0 hE hT hL q2.2 (ho.state (rs0 hT e1)) h
   exact ⟨1 + j,h1.mono (by omega),by dsimp only at *; omega⟩
  split at h
  ·rename_i hi
   have h0:=aw0 hE hn hi (by decide)
   obtain ⟨⟨s,n1⟩,e1,h⟩:=ag0 h
   have q1:=kn0 hE h0 e1
   obtain ⟨j,h1,h2⟩:=mg0 hE hT hL q1.2 (ho.fn (pFun_ok hE hT hL h0 e1) (by dsimp only at *; omega)) h
   exact ⟨(n1 - (n + 1)) + j,h1.mono (by omega),by dsimp only at *; omega⟩
  split at h
  ·rename_i hi
   have h0:=aw0 hE hn hi (by decide)
   obtain ⟨⟨s,n1⟩,e1,h⟩:=ag0 h
   have q1:=kn0 hE h0 e1
   obtain ⟨j,h1,h2⟩:=mg0 hE hT hL q1.2 (ho.fn (pFun_ok hE hT hL h0 e1) (by dsimp only at *; omega)) h
   exact ⟨(n1 - (n + 1)) + j,h1.mono (by omega),by dsimp only at *; omega⟩
  ·cases h
theorem read_ok {s:Bs} {p:Prg} (h:oU0 s=.ok p):OkP p 4097:=by
 rw [ru0] at h
 have hg:=kk0 s
 unfold iS0 at h
 cases hx:hJ0 s with
 | bad a e=>rw [hx] at h; cases h
 | ok ts =>
  have hT:=qH0 hx
  rw [hx] at hg h
  obtain ⟨o,b,rfl,ho⟩:=hg
  have hE:TEnd (o++[⟨5,bS [],0,b⟩]):=nK0.tend
  have hn:0 < (o++[(⟨5,bS [],0,b⟩:Tok)]).length:=by simp
  have hL:(o++[(⟨5,bS [],0,b⟩:Tok)]).length<=4096:=by simp; omega
  generalize o++[(⟨5,bS [],0,b⟩:Tok)]=ts at *
  dsimp only at h
  cases hp:ls0 ts oA0 with
  | bad n e=>rw [hp] at h; cases h
  | ok q =>
   obtain ⟨p',m⟩:=q
   rw [hp] at h
   injection h with h; subst h
   unfold ls0 at hp
   obtain ⟨n,e,hp⟩:=ag0 hp
   obtain ⟨⟨v,n1⟩,e1,hp⟩:=ag0 hp
   obtain ⟨n2,e2,hp⟩:=ag0 hp
   have q:=kW0 hE hn e
   have q1:=qK0 hE q.2 e1
   have q2:=ak0 hE q1.2 e2
   have hv:0<=v.num/\v.num < 9223372036854775808:=by
    unfold pInt at e1
    split at e1
    ·rename_i hk
     injection e1 with e1; injection e1 with h1 h2; subst h1
     exact (hT _).num hk
    ·cases e1
   obtain ⟨j,h1,h2⟩:=mg0 hE hT (by omega) q2.2 (k:=0) ⟨hv.1,hv.2,by simp,by simp,⟨[],by rw [b00.eq_def],by simp⟩,⟨[],by rw [ez0.eq_def],by simp⟩,fun f hf=>by cases hf⟩ hp
   exact h1.mono (by omega)
end Go.Am
end

section
namespace Go.Am
def samAt (pl:Bool) (a b:Int):Bool:=!pl || decide (a=b)
mutual
def samE (pl:Bool):Exq->Exq->Bool
 | .mk k op num text slot type args at_,y=>decide (k=y.kind/\op=y.op/\num=y.num/\text=y.text/\slot=y.slot/\type=y.type/\args.length=y.args.length) && samAt pl at_ y.at_ && samL pl args y.args
def samL (pl:Bool):List Exq->List Exq->Bool
 | [],m=>decide (m=[])
 | x :: l,m=>match m with
  | []=>false
  | y :: m=>samE pl x y && samL pl l m
end
mutual
def samS (pl:Bool):Stm->Stm->Bool
 | .mk k name slot state num e body els at_,y=>decide (k=y.kind/\name=y.name/\slot=y.slot/\state=y.state/\num=y.num/\e.length=y.e.length) && samAt pl at_ y.at_ && samL pl e y.e && samB pl body y.body && samB pl els y.els
def samB (pl:Bool):List Stm->List Stm->Bool
 | [],m=>decide (m=[])
 | x :: l,m=>match m with
  | []=>false
  | y :: m=>samS pl x y && samB pl l m
end
section
variable {α:Type} (f:α->α->Bool) (g:List α->List α->Bool)
end
end Go.Am
end

section
namespace Go.Am
set_option maxRecDepth 100000
attribute [local irreducible] vc vcIs vcI vcOp vcD vcDp vcDR vcT vcAR bY0 aX0 panD neG ne pv J bJ0 bP0 b20 bc0 evK evsK nthK objK boxK rowK bC0 intK strK aggK fnK ifcK ay0 az0 ldK ldaK iaK srcK stK appK appD b40 pvK bD0 aV0 bO0 bs0 slAV bI0
end Go.Am
end

section
namespace Go.Am
set_option maxRecDepth 100000
def prgOf:LxR Prg->Prg
 | .ok p=>p
 | .bad _ _=>⟨0,[],[]⟩
theorem OkP.tells {p:Prg} {k:Nat} (h:OkP p k) (hk:k < 2 ^ 20):p.tells :=
 ⟨h.v1,by have:=h.sl; omega,by have:=h.fl; omega,fun f hf=>by obtain ⟨j,h1,h2⟩:=h.fs f hf; have:=h1.ps; omega,fun f hf=>by obtain ⟨j,h1,h2⟩:=h.fs f hf; have:=h1.b; omega,
  fun f hf=>by obtain ⟨j,h1,h2⟩:=h.fs f hf; exact h1.sz⟩
theorem shFun_sep {f:Fun} {t:Bs} (h:nG0 f=some t) {ps:List Bs} (hp:ck0 f.params=some ps):(sepB ps).length<=t.length:=by
 unfold nG0 at h
 rw [hp] at h
 split at h
 ·rename_i ps' b e1 e2
  injection e1 with e1; subst e1
  split at h
  ·injection h with h; subst h
   simp only [List.length_append]; omega
  ·cases h
 ·cases h
theorem show_ok {p:Prg} (h:OkP p 4097):∃ t,shP p=some t/\t.length < 2 ^ 30/\Ret prog kd0 [p.V] (nF0 t):=by
 obtain ⟨a,h1,h2⟩:=h.st
 obtain ⟨b,h3,h4⟩:=h.ft
 have hi:=Lib.itoa_length_le p.version (by have:=h.v0; omega) (by have:=h.v1; omega)
 have ht:shP p=some (bH0++[32]++numB p.version++[59,10]++a++b):=by unfold shP; rw [if_pos h.v0,h1,h3]
 have hl:(bH0++[32]++numB p.version++[59,10]++a++b).length < 2 ^ 30:=by
  simp only [List.length_append,List.length_cons,List.length_nil,bH0,numB]; omega
 refine ⟨_,ht,hl,lV0 p (h.tells (by omega)) (fun f hf ps hps=>?_) ht (by omega)⟩
 obtain ⟨j,g1,g2⟩:=h.fs f hf
 obtain ⟨t,g3,g4⟩:=g1.sh
 have q:=shFun_sep g3 hps
 have q2:=g1.ps
 obtain ⟨q3,-⟩:=gU0 hps
 exact Join_own ps (by omega) (by omega)
theorem okP0:OkP ⟨0,[],[]⟩ 4097:=⟨by simp,by simp,by simp,by simp,⟨[],by rw [b00.eq_def],by simp⟩,⟨[],by rw [ez0.eq_def],by simp⟩,fun f hf=>by cases hf⟩
theorem prgOf_ok (s:Bs):OkP (prgOf (oU0 s)) 4097:=by
 cases h:oU0 s with
 | ok p=>exact read_ok h
 | bad a e=>exact okP0
def atOf:LxR Prg->Int
 | .ok _=>0
 | .bad a _=>a
def errOf:LxR Prg->Int
 | .ok _=>0
 | .bad _ e=>e
theorem parseV_of (r:LxR Prg):iT0 r=.tup [(prgOf r).V,vI (atOf r),vI (errOf r)]:=by
 cases r <;> rfl
end Go.Am
end

section
namespace Go.Am
def lnB:Option UInt8->Bs->Int->Bool->Bool->Nat->Int->Bool
 | pv,[],tb,st,q,ty,op=>decide (pv=some 10) && decide (op=0) && decide (ty=0) && !q
 | pv,c :: r,tb,st,q,ty,op =>
  if c=10 then (if decide (pv=some 32) || decide (pv=some 9) || q then false else lnB (some c) r 0 true q ty op)
  else if c=9 then (if st then lnB (some c) r (tb + 1) st q ty op else false)
  else if decide (c < 32) || decide (126 < c) then false
  else if st && decide (tb ≠ if c=125 then op - 1 else op) then false
  else if q && decide (c=92) then (match r with
   | []=>false
   | d :: r=>lnB (some d) r tb false q ty op)
  else if c=34 then lnB (some c) r tb false (!q) ty op
  else if q then lnB (some c) r tb false q ty op
  else if decide (c=123) && (decide (r.head?=some 105) || decide (r.head?=some 116)) then lnB (some c) r tb false q (ty + 1) op
  else if decide (c=125) && decide (0 < ty) then lnB (some c) r tb false q (ty - 1) op
  else if c=123 then lnB (some c) r tb false q ty (op + 1)
  else if c=125 then lnB (some c) r tb false q ty (op - 1)
  else lnB (some c) r tb false q ty op
def bl0 (c:UInt8):Bool:=decide (32<=c/\c<=126) && decide (c ≠ 34/\c ≠ 123/\c ≠ 125)
def Quiet (t:Bs):Prop:=∀ pv tb ty op,∃ pv',∀ r,lnB pv (t++r) tb false false ty op=lnB pv' r tb false false ty op
theorem rg0 {pv:Option UInt8} {c:UInt8} {r:Bs} {tb:Int} {ty:Nat} {op:Int} (h:bl0 c=true):lnB pv (c :: r) tb false false ty op=lnB (some c) r tb false false ty op:=by
 unfold bl0 at h
 simp only [Bool.and_eq_true,decide_eq_true_eq] at h
 obtain ⟨⟨h1,h2⟩,h3,h4,h5⟩:=h
 rw [UInt8.le_iff_toNat_le] at h1 h2
 have n1:c ≠ 10:=by rintro rfl; exact absurd h1 (by decide)
 have n2:c ≠ 9:=by rintro rfl; exact absurd h1 (by decide)
 have n3:¬ c < 32:=by rw [UInt8.lt_iff_toNat_lt]; omega
 have n4:¬ 126 < c:=by rw [UInt8.lt_iff_toNat_lt]; omega
 rw [lnB.eq_def]
 simp [n1,n2,n3,n4,h3,h4,h5]
theorem ln_first {pv:Option UInt8} {c:UInt8} {r:Bs} {ty:Nat} {op:Int} (h:bl0 c=true):lnB pv (c :: r) op true false ty op=lnB (some c) r op false false ty op:=by
 unfold bl0 at h
 simp only [Bool.and_eq_true,decide_eq_true_eq] at h
 obtain ⟨⟨h1,h2⟩,h3,h4,h5⟩:=h
 rw [UInt8.le_iff_toNat_le] at h1 h2
 have n1:c ≠ 10:=by rintro rfl; exact absurd h1 (by decide)
 have n2:c ≠ 9:=by rintro rfl; exact absurd h1 (by decide)
 have n3:¬ c < 32:=by rw [UInt8.lt_iff_toNat_lt]; omega
 have n4:¬ 126 < c:=by rw [UInt8.lt_iff_toNat_lt]; omega
 rw [lnB.eq_def]
 simp [n1,n2,n3,n4,h3,h4,h5]
theorem Quiet.nil:Quiet []:=fun pv tb ty op=>⟨pv,fun r=>rfl⟩
theorem Quiet.append {a b:Bs} (ha:Quiet a) (hb:Quiet b):Quiet (a++b):=fun pv tb ty op=>by
 obtain ⟨p1,h1⟩:=ha pv tb ty op
 obtain ⟨p2,h2⟩:=hb p1 tb ty op
 exact ⟨p2,fun r=>by rw [List.append_assoc,h1,h2]⟩
theorem Quiet.bl0 {t:Bs} (h:t.all bl0=true):Quiet t:=by
 induction t with
 | nil=>exact .nil
 | cons c t ih =>
  rw [List.all_cons,Bool.and_eq_true] at h
  have h1:Quiet [c]:=fun pv tb ty op=>⟨some c,fun r=>rg0 h.1⟩
  exact h1.append (ih h.2)
theorem ln_quoted (s:Bs) (h:s.all (fun c=>decide (32<=c/\c<=126))=true):∀ pv tb ty op,∃ pv',∀ r,lnB pv (s.flatMap (fun c=>if c=92 then [92,92] else if c=34 then [92,34] else [c])++r) tb false true ty op=lnB pv' r tb false true ty op:=by
 induction s with
 | nil=>exact fun pv tb ty op=>⟨pv,fun r=>rfl⟩
 | cons c s ih =>
  intro pv tb ty op
  rw [List.all_cons,Bool.and_eq_true,decide_eq_true_eq] at h
  obtain ⟨⟨h1,h2⟩,h3⟩:=h
  rw [UInt8.le_iff_toNat_le] at h1 h2
  have n1:c ≠ 10:=by rintro rfl; exact absurd h1 (by decide)
  have n2:c ≠ 9:=by rintro rfl; exact absurd h1 (by decide)
  have n3:¬ c < 32:=by rw [UInt8.lt_iff_toNat_lt]; omega
  have n4:¬ 126 < c:=by rw [UInt8.lt_iff_toNat_lt]; omega
  obtain ⟨p1,hp⟩:=ih h3 (some c) tb ty op
  refine ⟨p1,fun r=>?_⟩
  rw [List.flatMap_cons,List.append_assoc]
  by_cases e1:c=92
  ·subst e1
   rw [if_pos rfl,<- hp]
   show lnB pv (92 :: 92 :: _) tb false true ty op=_
   conv=>lhs; rw [lnB.eq_def]
   simp
  ·by_cases e2:c=34
   ·subst e2
    rw [if_neg e1,if_pos rfl,<- hp]
    show lnB pv (92 :: 34 :: _) tb false true ty op=_
    conv=>lhs; rw [lnB.eq_def]
    simp
   ·rw [if_neg e1,if_neg e2,<- hp]
    show lnB pv (c :: _) tb false true ty op=_
    conv=>lhs; rw [lnB.eq_def]
    simp [n1,n2,n3,n4,e1,e2]
theorem ln_q {pv:Option UInt8} {r:Bs} {tb:Int} {q:Bool} {ty:Nat} {op:Int}:lnB pv (34 :: r) tb false q ty op=lnB (some 34) r tb false (!q) ty op:=by
 conv=>lhs; rw [lnB.eq_def]
 simp
theorem Quiet.quote {s:Bs} (h:gt0 s=true):Quiet (io0 s):=fun pv tb ty op=>by
 unfold gt0 at h
 rw [Bool.and_eq_true] at h
 obtain ⟨p1,hp⟩:=ln_quoted s h.2 (some 34) tb ty op
 refine ⟨some 34,fun r=>?_⟩
 unfold io0
 generalize s.flatMap (fun c=>if c=92 then [92,92] else if c=34 then [92,34] else [c])=X at *
 have e:[34]++X++[34]++r=34 :: (X++(34 :: r)):=by simp
 rw [e,ln_q,Bool.not_false,hp,ln_q]
 rfl
theorem Quiet.brace {a s:Bs} {c:UInt8} (hc:c=105\/c=116) (ha:(c :: a).all Am.bl0=true) (hs:Quiet s):Quiet (123 :: c :: a++s++[125]):=fun pv tb ty op=>by
 obtain ⟨p1,h1⟩:=(Quiet.bl0 ha).append hs (some 123) tb (ty + 1) op
 refine ⟨some 125,fun r=>?_⟩
 have e:123 :: c :: a++s++[125]++r=123 :: (c :: a++s++(125 :: r)):=by simp
 rw [e,lnB.eq_def]
 have h2:=h1 (125 :: r)
 rcases hc with rfl | rfl
 ·simp
  rw [show (105 :: (a++(s++125 :: r)))=105 :: a++s++125 :: r by simp,h2,lnB.eq_def]
  simp
 ·simp
  rw [show (116 :: (a++(s++125 :: r)))=116 :: a++s++125 :: r by simp,h2,lnB.eq_def]
  simp
theorem Quiet.ty {d:Nat} {s:Bs} (h:IsTy d s):Quiet s:=by
 induction h with
 | base h=>rcases gW0 h with rfl | rfl | rfl <;> exact .bl0 (by decide)
 | list h ih=>exact ((Quiet.bl0 (by decide)).append ih).append (.bl0 (by decide))
 | mapI h ih=>exact Quiet.brace (c:=105) (a:=[110,116,58]) (.inl rfl) (by decide) ih
 | mapT h ih=>exact Quiet.brace (c:=116) (a:=[101,120,116,58]) (.inr rfl) (by decide) ih
theorem Quiet.type {s:Bs} (h:qg0 s=true):Quiet s:=by
 obtain ⟨d,hd,_⟩:=tyB_is (r:=3) h
 exact .ty hd
theorem Quiet.name {s:Bs} (h:cS0 s=true):Quiet s:=by
 unfold cS0 at h
 simp only [Bool.and_eq_true] at h
 refine .bl0 ?_
 rw [List.all_eq_true] at *
 intro c hc
 have h1:=h.1.2 c hc
 have:∀ c ∈ au0++al0,Am.bl0 c=true:=by decide
 exact this c (by simpa using h1)
end Go.Am
end

section
namespace Go.Am
theorem mx0:∀ d:Nat,d < 10->bl0 (UInt8.ofNat (48 + d))=true:=by decide
theorem iC0:∀ (n u:Nat),u < n->(Lib.decDigits u).all bl0=true
 | 0,u,h=>by omega
 | n + 1,u,h=>by
  rw [Lib.decDigits]
  split
  ·rename_i h1; rw [List.all_cons,mx0 u h1]; rfl
  ·rw [List.all_append,iC0 n (u / 10) (by omega),List.all_cons,mx0 (u % 10) (by omega)]; rfl
theorem hnum (n:Int) (h:0<=n):Quiet (numB n):=.bl0 (by
 unfold numB Lib.itoa
 rw [if_neg (by omega)]
 exact iC0 _ _ (Nat.lt_succ_self _))
theorem Quiet.within {s:Bs} (h:Quiet s) (b:Bool):Quiet (within s b):=by
 unfold Am.within
 split
 ·exact ((Quiet.bl0 (by decide)).append h).append (.bl0 (by decide))
 ·exact h
theorem Quiet.op (op:Int):Quiet (opB op):=by
 unfold opB
 generalize op.toNat - 1=i
 by_cases h:i < 13
 ·have:∀ i < 13,(pOps.getD i []).all Am.bl0=true:=by decide
  exact .bl0 (this i h)
 ·rw [List.getD_eq_getElem?_getD,List.getElem?_eq_none (by simp [pOps,ci0]; omega)]; exact .nil
theorem Quiet.sep {ts:List Bs} (h:∀ t ∈ ts,Quiet t):Quiet (sepB ts):=by
 unfold sepB
 have:∀ (l:List Bs) (f:Nat->Bs->Bs) (hf:∀ i t,t ∈ l->Quiet (f i t)),Quiet (l.mapIdx f).flatten:=by
  intro l
  induction l with
  | nil=>intro f hf; exact .nil
  | cons t l ih =>
   intro f hf
   rw [List.mapIdx_cons,List.flatten_cons]
   exact (hf 0 t (by simp)).append (ih _ fun i t ht=>hf (i + 1) t (by simp [ht]))
 exact this ts _ fun i t ht=>Quiet.append (by split; exact .nil; exact .bl0 (by decide)) (h t ht)
theorem qV0:∀ {l:List Exq} {ts:List Bs},shL l=some ts->∀ t ∈ ts,∃ x ∈ l,shE x=some t
 | [],ts,h,t,ht=>by rw [shL.eq_def] at h; injection h with h; subst h; simp at ht
 | x :: l,ts,h,t,ht=>by
  rw [shL.eq_def] at h
  dsimp only at h
  split at h
  ·rename_i a b ha hb
   injection h with h; subst h
   rcases List.mem_cons.1 ht with rfl | ht
   ·exact ⟨x,by simp,ha⟩
   ·obtain ⟨y,h1,h2⟩:=qV0 hb t ht
    exact ⟨y,by simp [h1],h2⟩
  ·cases h
theorem quietE:∀ (m:Nat) (x:Exq),SizeOf.sizeOf x < m->∀ {t:Bs},shE x=some t->Quiet t:=by
 intro m
 induction m with
 | zero=>intro x h; omega
 | succ m ih =>
  intro x hm t h
  obtain ⟨k,op,num,text,slot,type,args,at_⟩:=x
  have hsz:∀ y ∈ args,SizeOf.sizeOf y < m:=fun y hy=>by
   have:=List.sizeOf_lt_of_mem hy
   simp only [Exq.mk.sizeOf_spec] at hm; omega
  have hL:∀ {ts:List Bs},shL args=some ts->∀ t ∈ ts,Quiet t:=fun hL t ht=>by
   obtain ⟨y,h1,h2⟩:=qV0 hL t ht
   exact ih y (hsz y h1) h2
  rw [shE.eq_def] at h
  dsimp only at h
  split at h
  ·split at h
   ·rename_i hc; injection h with h; subst h; exact hnum _ hc.2
   ·cases h
  split at h
  ·split at h
   ·injection h with h; subst h; split <;> exact .bl0 (by decide)
   ·cases h
  split at h
  ·split at h
   ·rename_i hc; injection h with h; subst h; exact .quote hc.2
   ·cases h
  split at h
  ·split at h
   ·rename_i hc; injection h with h; subst h; exact .name hc.2
   ·cases h
  split at h
  ·split at h
   ·rename_i hc
    cases hL':shL args with
    | none=>rw [hL'] at h; cases h
    | some ts =>
     rw [hL'] at h
     simp only [Option.map_some,Option.some.injEq] at h
     subst h
     exact (((Quiet.name hc).append (.bl0 (by decide))).append (.sep (hL hL'))).append (.bl0 (by decide))
   ·cases h
  split at h
  ·split at h
   all_goals first
    | (cases h; done)
    | skip
   rename_i x y a b hL'
   injection h with h; subst h
   have:=hL hL'
   exact ((((this a (by simp)).within _).append (.bl0 (by decide))).append (this b (by simp))).append (.bl0 (by decide))
  split at h
  ·split at h
   all_goals first
    | (cases h; done)
    | skip
   rename_i x a hL'
   injection h with h; subst h
   have:=hL hL'
   refine Quiet.append ?_ ((this a (by simp)).within _)
   split <;> exact .bl0 (by decide)
  split at h
  ·split at h
   all_goals first
    | (cases h; done)
    | skip
   rename_i x y a b hL'
   split at h
   ·injection h with h; subst h
    have:=hL hL'
    exact (((((this a (by simp)).within _).append (.bl0 (by decide))).append (.op _)).append (.bl0 (by decide))).append ((this b (by simp)).within _)
   ·cases h
  ·cases h
def EndB (pv:Option UInt8):Prop:=pv=some 59\/pv=some 125
def Tail (op:Int) (t:Bs):Prop:=∀ pv tb,∃ pv' tb',EndB pv'/\∀ r,lnB pv (t++r) tb false false 0 op=lnB pv' r tb' false false 0 op
def Line (op:Int) (t:Bs):Prop:=∀ pv,∃ pv' tb',EndB pv'/\∀ r,lnB pv (t++r) op true false 0 op=lnB pv' r tb' false false 0 op
theorem Tail.quiet {op:Int} {a b:Bs} (ha:Quiet a) (hb:Tail op b):Tail op (a++b):=fun pv tb=>by
 obtain ⟨p1,h1⟩:=ha pv tb 0 op
 obtain ⟨p2,t2,e,h2⟩:=hb p1 tb
 exact ⟨p2,t2,e,fun r=>by rw [List.append_assoc,h1,h2]⟩
theorem Tail.append {op:Int} {a b:Bs} (ha:Tail op a) (hb:Tail op b):Tail op (a++b):=fun pv tb=>by
 obtain ⟨p1,t1,_,h1⟩:=ha pv tb
 obtain ⟨p2,t2,e,h2⟩:=hb p1 t1
 exact ⟨p2,t2,e,fun r=>by rw [List.append_assoc,h1,h2]⟩
theorem Tail.semi (op:Int):Tail op [59]:=fun pv tb=>⟨some 59,tb,.inl rfl,fun r=>rg0 (by decide)⟩
theorem Line.of {op:Int} {c:UInt8} {t:Bs} (hc:bl0 c=true) (h:Tail op t):Line op (c :: t):=fun pv=>by
 obtain ⟨p1,t1,e,h1⟩:=h (some c) op
 exact ⟨p1,t1,e,fun r=>by rw [List.cons_append,ln_first hc,h1]⟩
theorem qG0 {r:Bs} {op:Int} {ty:Nat}:∀ (n:Nat) (pv:Option UInt8) (k:Int),∃ pv',∀ r,lnB pv (tabs n++r) k true false ty op=lnB pv' r (k + n) true false ty op
 | 0,pv,k=>⟨pv,fun r=>by simp [tabs]⟩
 | n + 1,pv,k=>by
  obtain ⟨p,h⟩:=qG0 (r:=r) (op:=op) (ty:=ty) n (some 9) (k + 1)
  refine ⟨p,fun r=>?_⟩
  have e:tabs (n + 1)++r=9 :: (tabs n++r):=by simp [tabs,List.replicate_succ]
  rw [e,lnB.eq_def]
  simp only [show ¬ (9:UInt8)=10 by decide,if_false,if_true]
  rw [h,show k + 1 + (n:Int)=k + (n + 1:Nat) by omega]
theorem ln_end {pv:Option UInt8} (h:EndB pv) {r:Bs} {tb:Int} {st:Bool} {op:Int}:lnB pv (10 :: r) tb st false 0 op=lnB (some 10) r 0 true false 0 op:=by
 rw [lnB.eq_def]
 rcases h with rfl | rfl <;> simp
theorem linesT (n:Nat):∀ (l:List Stm) {t:Bs},(∀ x ∈ l,∀ {s:Bs},shS (n + 1) x=some s->Line (n + 1:Nat) s)->shT n l=some t->∀ pv,∃ pv',∀ r,lnB pv (t++r) 0 true false 0 (n + 1:Nat)=lnB pv' r 0 true false 0 (n + 1:Nat)
 | [],t,_,h,pv=>by rw [shT.eq_def] at h; injection h with h; subst h; exact ⟨pv,fun r=>rfl⟩
 | x :: l,t,hx,h,pv=>by
  rw [shT.eq_def] at h
  dsimp only at h
  split at h
  ·rename_i a b ha hb
   injection h with h; subst h
   obtain ⟨p1,h1⟩:=qG0 (r:=[]) (op:=(n + 1:Nat)) (ty:=0) (n + 1) pv 0
   obtain ⟨p2,t2,e2,h2⟩:=hx x (by simp) ha p1
   obtain ⟨p3,h3⟩:=linesT n l (fun y hy=>hx y (by simp [hy])) hb (some 10)
   refine ⟨p3,fun r=>?_⟩
   rw [List.append_assoc,List.append_assoc,List.append_assoc,h1,Int.zero_add,h2]
   show lnB p2 (10 :: (b++r)) _ _ _ _ _=_
   rw [ln_end e2,h3]
  ·cases h
theorem Tail.block (n:Nat) (l:List Stm) {t:Bs} (hx:∀ x ∈ l,∀ {s:Bs},shS (n + 1) x=some s->Line (n + 1:Nat) s) (h:shB n l=some t):Tail n t:=by
 intro pv tb
 cases l with
 | nil =>
  rw [shB.eq_def] at h; injection h with h; subst h
  refine ⟨some 125,tb,.inr rfl,fun r=>?_⟩
  show lnB pv (123 :: 125 :: r) tb false false 0 n=_
  rw [lnB.eq_def]
  simp
  rw [lnB.eq_def]
  simp
 | cons x l =>
  rw [o20] at h
  cases hT:shT n (x :: l) with
  | none=>rw [hT] at h; cases h
  | some b =>
   rw [hT] at h
   simp only [Option.map_some,Option.some.injEq] at h
   subst h
   obtain ⟨p1,h1⟩:=linesT n (x :: l) hx hT (some 10)
   obtain ⟨p2,h2⟩:=qG0 (r:=[]) (op:=(n + 1:Nat)) (ty:=0) n p1 0
   refine ⟨some 125,n,.inr rfl,fun r=>?_⟩
   have e:[123,10]++b++tabs n++[125]++r=123 :: 10 :: (b++(tabs n++(125 :: r))):=by simp
   rw [e,lnB.eq_def]
   simp
   rw [lnB.eq_def]
   simp
   have e3:(n:Int) + 1=(n + 1:Nat):=by omega
   rw [e3,h1,h2,lnB.eq_def]
   simp
theorem lineS:∀ (m n:Nat) (x:Stm),SizeOf.sizeOf x < m->∀ {t:Bs},shS n x=some t->Line n t:=by
 intro m
 induction m with
 | zero=>intro n x h; omega
 | succ m ih =>
  intro n x hm t h
  obtain ⟨k,name,slot,state,num,e,body,els,at_⟩:=x
  simp only [Stm.mk.sizeOf_spec] at hm
  have hB:∀ {l:List Stm} {t:Bs},SizeOf.sizeOf l < m->shB n l=some t->Tail n t:=fun {l t} hl h=>Tail.block n l (fun x hx s hs=>ih (n + 1) x (by have:=List.sizeOf_lt_of_mem hx; omega) hs) h
  have hE:∀ {ts:List Bs},shL e=some ts->∀ t ∈ ts,Quiet t:=fun hL t ht=>by
   obtain ⟨y,h1,h2⟩:=qV0 hL t ht
   exact quietE _ y (Nat.lt_succ_self _) h2
  rw [shS.eq_def] at h
  dsimp only at h
  split at h
  ·split at h
   ·rename_i a hL
    split at h
    ·rename_i hn
     injection h with h; subst h
     have ha:=hE hL a (by simp)
     have:=Tail.quiet (((((Quiet.bl0 (t:=[101,116,32]) (by decide)).append (.name hn)).append (.bl0 (t:=[32,61,32]) (by decide))).append ha)) (Tail.semi n)
     exact Line.of (c:=108) (by decide) (by simpa [e30] using this)
    ·cases h
   ·cases h
  split at h
  ·split at h
   ·rename_i a hL
    split at h
    ·rename_i hn
     injection h with h; subst h
     have ha:=hE hL a (by simp)
     have:=Tail.quiet (((((Quiet.bl0 (t:=[101,116,32]) (by decide)).append (.name hn)).append (.bl0 (t:=[32,61,32]) (by decide))).append ha)) (Tail.semi n)
     exact Line.of (c:=115) (by decide) (by simpa [dE0] using this)
    ·cases h
   ·rename_i a b hL
    split at h
    ·rename_i hn
     injection h with h; subst h
     have ha:=hE hL a (by simp)
     have hb:=hE hL b (by simp)
     have:=Tail.quiet (((((((Quiet.bl0 (t:=[101,116,32]) (by decide)).append (.name hn)).append (.bl0 (t:=[91]) (by decide))).append ha).append (.bl0 (t:=[93]) (by decide))).append (.bl0 (t:=[32,61,32]) (by decide))).append hb) (Tail.semi n)
     exact Line.of (c:=115) (by decide) (by simpa [dE0] using this)
    ·cases h
   ·cases h
  split at h
  ·split at h
   ·rename_i a hL
    split at h
    ·rename_i hn
     injection h with h; subst h
     have ha:=hE hL a (by simp)
     have:=Tail.quiet ((((((Quiet.bl0 (t:=[101,108,32]) (by decide)).append (.name hn)).append (.bl0 (t:=[91]) (by decide))).append ha).append (.bl0 (t:=[93]) (by decide)))) (Tail.semi n)
     exact Line.of (c:=100) (by decide) (by simpa [e00] using this)
    ·cases h
   ·cases h
  split at h
  ·split at h
   ·rename_i a b c hL h1 h2
    injection h with h; subst h
    have ha:=hE hL a (by simp)
    have hb:=hB (by omega) h1
    have hc:=hB (by omega) h2
    have hh:=Tail.quiet (((Quiet.bl0 (t:=[102,32]) (by decide)).append ha).append (.bl0 (t:=[32]) (by decide))) hb
    split
    ·exact Line.of (c:=105) (by decide) (by simpa [kwIf] using hh)
    ·have:=hh.append (Tail.quiet (Quiet.bl0 (t:=[32]++co0++[32]) (by decide)) hc)
     exact Line.of (c:=105) (by decide) (by simpa [kwIf] using this)
   ·cases h
  split at h
  ·split at h
   ·rename_i a b hL h1
    split at h
    ·rename_i hn
     injection h with h; subst h
     have ha:=hE hL a (by simp)
     have hb:=hB (by omega) h1
     have:=Tail.quiet (((((Quiet.bl0 (t:=[111,114,32]) (by decide)).append (.name hn)).append (.bl0 (t:=[32]++kwTo++[32]) (by decide))).append ha).append (.bl0 (t:=[32]) (by decide))) hb
     exact Line.of (c:=102) (by decide) (by simpa [e20] using this)
    ·cases h
   ·cases h
  split at h
  ·split at h
   ·rename_i a hL
    injection h with h; subst h
    have ha:=hE hL a (by simp)
    have:=Tail.quiet ((Quiet.bl0 (t:=[101,116,32]) (by decide)).append ha) (Tail.semi n)
    exact Line.of (c:=114) (by decide) (by simpa [e40] using this)
   ·cases h
  ·cases h
def Whole (t:Bs):Prop:=∀ pv,∃ pv',(pv'=pv\/pv'=some 10)/\∀ r,lnB pv (t++r) 0 true false 0 0=lnB pv' r 0 true false 0 0
theorem Whole.nil:Whole []:=fun pv=>⟨pv,.inl rfl,fun r=>rfl⟩
theorem Whole.append {a b:Bs} (ha:Whole a) (hb:Whole b):Whole (a++b):=fun pv=>by
 obtain ⟨p1,e1,h1⟩:=ha pv
 obtain ⟨p2,e2,h2⟩:=hb p1
 refine ⟨p2,?_,fun r=>by rw [List.append_assoc,h1,h2]⟩
 rcases e2 with rfl | rfl
 ·exact e1
 ·exact .inr rfl
theorem Whole.line {t:Bs} (h:Line 0 t):Whole (t++[10]):=fun pv=>by
 obtain ⟨p1,t1,e,h1⟩:=h pv
 exact ⟨some 10,.inr rfl,fun r=>by rw [List.append_assoc,h1]; exact ln_end e⟩
theorem Quiet.slot {s:Slo} {t:Bs} (h:gT0 s=some t):Quiet t:=by
 unfold gT0 at h
 split at h
 ·rename_i hc
  rw [Bool.and_eq_true] at hc
  injection h with h; subst h
  exact ((Quiet.name hc.2).append (.bl0 (by decide))).append (.type hc.1)
 ·cases h
theorem nb0:∀ {l:List Slo} {ts:List Bs},ck0 l=some ts->∀ t ∈ ts,Quiet t
 | [],ts,h,t,ht=>by rw [ck0.eq_def] at h; injection h with h; subst h; simp at ht
 | x :: l,ts,h,t,ht=>by
  rw [ck0.eq_def] at h
  dsimp only at h
  split at h
  ·rename_i a b ha hb
   injection h with h; subst h
   rcases List.mem_cons.1 ht with rfl | ht
   ·exact .slot ha
   ·exact nb0 hb t ht
  ·cases h
theorem Whole.bN0:∀ {l:List Slo} {t:Bs},b00 l=some t->Whole t
 | [],t,h=>by rw [b00.eq_def] at h; injection h with h; subst h; exact .nil
 | x :: l,t,h=>by
  rw [b00.eq_def] at h
  dsimp only at h
  split at h
  ·rename_i a b ha hb
   injection h with h; subst h
   have h1:Line 0 (el0++[32]++a++[59]):=Line.of (c:=115) (by decide) (by
    have:=Tail.quiet ((Quiet.bl0 (t:=[116,97,116,101,32]) (by decide)).append (.slot ha)) (Tail.semi 0)
    simpa [el0] using this)
   have:=(Whole.line h1).append (Whole.bN0 hb)
   simpa using this
  ·cases h
theorem Whole.fn {f:Fun} {t:Bs} (h:nG0 f=some t):Whole t:=by
 unfold nG0 at h
 split at h
 ·rename_i ps b h1 h2
  split at h
  ·rename_i hc
   rw [Bool.and_eq_true] at hc
   injection h with h; subst h
   have hb:Tail 0 b:=Tail.block 0 f.body (fun x hx s hs=>lineS _ 1 x (Nat.lt_succ_self _) hs) h2
   have hq:∀ w:Bs,w.all bl0=true->Tail 0 (w++sB f.name++[40]++sepB ps++[41,58,32]++sB f.result++[32]++b):=fun w hw =>
    Tail.quiet ((((((((Quiet.bl0 hw).append (.name hc.2)).append (.bl0 (by decide))).append (.sep (nb0 h1))).append (.bl0 (by decide))).append (.type hc.1)).append (.bl0 (by decide)))) hb
   cases hon:f.on with
   | true =>
    have:=Whole.line (Line.of (c:=111) (by decide) (hq [110,32] (by decide)))
    simpa [kwOn] using this
   | false =>
    have:=Whole.line (Line.of (c:=102) (by decide) (hq [110,32] (by decide)))
    simpa [kwFn] using this
  ·cases h
 ·cases h
theorem Whole.fns:∀ {l:List Fun} {t:Bs},ez0 l=some t->Whole t
 | [],t,h=>by rw [ez0.eq_def] at h; injection h with h; subst h; exact .nil
 | x :: l,t,h=>by
  rw [ez0.eq_def] at h
  dsimp only at h
  split at h
  ·rename_i a b ha hb
   injection h with h; subst h
   exact (Whole.fn ha).append (Whole.fns hb)
  ·cases h
theorem sh0 {p:Prg} {t:Bs} (h:shP p=some t):lnB none t 0 true false 0 0=true:=by
 unfold shP at h
 split at h
 ·rename_i hv
  split at h
  ·rename_i a b ha hb
   injection h with h; subst h
   have h1:Line 0 (bH0++[32]++numB p.version++[59]):=Line.of (c:=118) (by decide) (by
    have:=Tail.quiet ((Quiet.bl0 (t:=[101,114,115,105,111,110,32]) (by decide)).append (hnum _ hv)) (Tail.semi 0)
    simpa [bH0] using this)
   obtain ⟨p1,t1,e1,g1⟩:=h1 none
   obtain ⟨p2,e2,g2⟩:=((Whole.bN0 ha).append (Whole.fns hb)) (some 10)
   have hp:p2=some 10:=by rcases e2 with rfl | rfl <;> rfl
   subst hp
   have e:bH0++[32]++numB p.version++[59,10]++a++b=(bH0++[32]++numB p.version++[59])++(10 :: (a++b++[])):=by simp
   rw [e,g1,ln_end e1,g2,lnB.eq_def]
   rfl
  ·cases h
 ·cases h
end Go.Am
end

section
namespace Go.Am
set_option maxRecDepth 100000
attribute [local irreducible] vc vcIs vcI vcOp vcD vcDp vcDR vcT vcAR bY0 aX0 panD neG ne pv J bJ0 bP0 b20 bc0 evK evsK nthK objK boxK rowK bC0 intK strK aggK fnK ifcK ay0 az0 ldK ldaK iaK srcK stK appK appD b40 pvK bD0 aV0 bO0 bs0 slAV bI0
def oQ0 (a:Bs) (i:Nat):Option UInt8:=if i=0 then none else a[i - 1]?
structure LnSt where
 i:Nat
 tb:Int
 st:Bool
 q:Bool
 ty:Nat
 op:Int
def LnSt.env (t:Bs) (x:LnSt):Env:=[(13,vI x.i),(6,vS (bS t)),(8,vI x.tb),(9,vB x.st),(10,vB x.q),(11,vI x.ty),(12,vI x.op)]
structure LnSt.ok (t:Bs) (x:LnSt):Prop where
 i:x.i<=t.length
 ln:lnB (oQ0 t x.i) (t.drop x.i) x.tb x.st x.q x.ty x.op=true
 tb0:0<=x.tb
 tb:x.tb<=x.i
 ty:x.ty<=x.i
 op0:-x.i<=x.op
 op:x.op<=x.i
theorem ni0 {c d:UInt8} (h:c=d):(c.toNat:Int)=(d.toNat:Int):=by rw [h]
theorem l90 {c d:UInt8} (h:¬ c=d):¬ (c.toNat:Int)=(d.toNat:Int):=fun e=>h (UInt8.toNat_inj.1 (by omega))
theorem LnSt.step {t:Bs} {i:Nat} {tb:Int} {st q:Bool} {ty:Nat} {op:Int} (hlt:i < t.length) (hl:lnB (some t[i]) (t.drop (i + 1)) tb st q ty op=true)
  (h0:0<=tb) (h1:tb<=(i + 1:Nat)) (h2:ty<=i + 1) (h3:-((i + 1:Nat):Int)<=op) (h4:op<=(i + 1:Nat)):LnSt.ok t ⟨i + 1,tb,st,q,ty,op⟩ :=
 ⟨hlt,by
  have:oQ0 t (i + 1)=some t[i]:=by unfold oQ0; rw [if_neg (by omega),Nat.add_sub_cancel,List.getElem?_eq_getElem hlt]
  rw [this]; exact hl,h0,h1,h2,h3,h4⟩
set_option maxHeartbeats 40000000 in
theorem no0 (s:ByteArray) (hs:s.size < 2 ^ 39):Ret prog ev0 [vS s] (vB true):=by
 have hP:=rL0 s hs
 have ho:=prgOf_ok (sB s)
 rw [parseV_of] at hP
 generalize atOf (oU0 (sB s))=x1 at hP
 generalize errOf (oU0 (sB s))=x2 at hP
 generalize prgOf (oU0 (sB s))=p at *
 obtain ⟨t,h1,h2,hS⟩:=show_ok ho
 have hln:=sh0 h1
 refine at0 eg0 (by simp) ?_
 refine rS1 @dX0.eq_1 ?_
 refine ao0 ?_; simp; refine aj0 (sD0) (by simp) ?_
 refine rS0 ?_
 refine ao0 ?_; simp; refine aj0 (hP) (by simp) ?_
 by_cases hx:x2=0
 rotate_left
 ·refine rS1 hx ?_
  refine ax0 [] ?_
  exact rT0
 ·subst hx
  refine rS0 ?_
  by_cases ht:t.length<=16384
  ·have hA:nF0 t=.tup [vS (bS t),vI 0]:=by unfold nF0; rw [if_pos ht]
   rw [hA] at hS
   have hsz:(bS t).size=t.length:=rfl
   refine ao0 ?_; simp; refine aj0 (hS) (by simp) ?_
   refine rS0 ?_
   refine aH0 (fun x:LnSt=>t.length - x.i) (LnSt.env t) (fun _=>[]) (LnSt.ok t) ⟨0,0,true,false,0,0⟩ ⟨by simp,hln,by simp,by simp,by simp,by simp,by simp⟩ (Wk.subs (by simp [LnSt.env]) (by simp)) ?_
   rintro ⟨i,tb,st,q,ty,op⟩ ⟨hi,hl,b0,b1,b2,b3,b4⟩
   dsimp only at hi hl b0 b1 b2 b3 b4
   by_cases hlt:i < t.length
   ·have hlt':(i:Int) < t.length:=by omega
    have hdr:t.drop i=t[i] :: t.drop (i + 1):=List.drop_eq_getElem_cons hlt
    rw [hdr,lnB.eq_def] at hl
    dsimp only at hl
    have hlt2:i < (bS t).size:=hlt
    by_cases e10:t[i]=10
    ·have k10:(t[i].toNat:Int)=10:=ni0 e10
     rw [if_pos e10] at hl
     by_cases hcon:(decide (oQ0 t i=some 32) || decide (oQ0 t i=some 9) || q)=true
     ·rw [if_pos hcon] at hl; cases hl
     rw [if_neg hcon] at hl
     simp only [Bool.or_eq_true,decide_eq_true_eq,not_or,Bool.not_eq_true] at hcon
     obtain ⟨⟨c1,c2⟩,rfl⟩:=hcon
     by_cases hi0:0 < i
     ·have hp:oQ0 t i=some (t[i - 1]'(by omega)):=by unfold oQ0; rw [if_neg (by omega),List.getElem?_eq_getElem (by omega)]
      rw [hp] at c1 c2
      have d1:((t[i - 1].toNat:Int)=32)=False:=eq_false (l90 (c:=t[i - 1]'(by omega)) (d:=32) (fun e=>c1 (by rw [e])))
      have d2:((t[i - 1].toNat:Int)=9)=False:=eq_false (l90 (c:=t[i - 1]'(by omega)) (d:=9) (fun e=>c2 (by rw [e])))
      simp +contextual (maxSteps:=2000000) (disch:=omega) [-Int.not_lt,-Int.not_le,-Nat.not_lt,-Nat.not_le,sx,LnSt.env,hlt',hsz,hlt,hlt2,k10,hi0,d1,d2]
      exact .of ⟨i + 1,0,true,false,ty,op⟩ (LnSt.step (by omega) hl (by omega) (by omega) (by omega) (by omega) (by omega)) (by dsimp only; omega) (Wk.subs (by simp [LnSt.env] <;> omega) (by simp))
     ·obtain rfl:i=0:=by omega
      simp +contextual (maxSteps:=2000000) (disch:=omega) [-Int.not_lt,-Int.not_le,-Nat.not_lt,-Nat.not_le,sx,LnSt.env,hlt',hsz,hlt,hlt2,k10]
      exact .of ⟨0 + 1,0,true,false,ty,op⟩ (LnSt.step (by omega) hl (by omega) (by omega) (by omega) (by omega) (by omega)) (by dsimp only; omega) (Wk.subs (by simp [LnSt.env] <;> omega) (by simp))
    have n10:((t[i].toNat:Int)=10)=False:=eq_false (l90 e10)
    rw [if_neg e10] at hl
    by_cases e9:t[i]=9
    ·have k9:(t[i].toNat:Int)=9:=ni0 e9
     rw [if_pos e9] at hl
     cases st
     ·cases hl
     simp +contextual (maxSteps:=2000000) (disch:=omega) [-Int.not_lt,-Int.not_le,-Nat.not_lt,-Nat.not_le,sx,LnSt.env,hlt',hsz,hlt,hlt2,n10,k9]
     exact .of ⟨i + 1,tb + 1,true,q,ty,op⟩ (LnSt.step (by omega) (by simpa using hl) (by omega) (by omega) (by omega) (by omega) (by omega)) (by dsimp only; omega) (Wk.subs (by simp [LnSt.env] <;> omega) (by simp))
    have n9:((t[i].toNat:Int)=9)=False:=eq_false (l90 e9)
    rw [if_neg e9] at hl
    by_cases hcon:(decide (t[i] < 32) || decide (126 < t[i]))=true
    ·rw [if_pos hcon] at hl; cases hl
    rw [if_neg hcon] at hl
    simp only [Bool.or_eq_true,decide_eq_true_eq,not_or,UInt8.lt_iff_toNat_lt] at hcon
    have l32:((t[i].toNat:Int) < 32)=False:=eq_false (by have:=hcon.1; rw [show (32:UInt8).toNat=32 from rfl] at this; omega)
    have l126:((126:Int) < t[i].toNat)=False:=eq_false (by have:=hcon.2; rw [show (126:UInt8).toNat=126 from rfl] at this; omega)
    clear hcon
    by_cases hcon:(st && decide (tb ≠ if t[i]=125 then op - 1 else op))=true
    ·rw [if_pos hcon] at hl; cases hl
    rw [if_neg hcon] at hl
    have htbC:t[i]=125->st=true->tb=op - 1:=fun e h=>by rw [if_pos e,h] at hcon; simpa using hcon
    have htbN:¬ t[i]=125->st=true->tb=op:=fun e h=>by rw [if_neg e,h] at hcon; simpa using hcon
    clear hcon
    cases q
    rotate_left
    ·by_cases e92:t[i]=92
     ·have ee:=e92
      have k92:(t[i].toNat:Int)=92:=ni0 e92
      have htb:=htbN
      cases hr:t.drop (i + 1) with
      | nil=>rw [hr,e92] at hl; simp at hl
      | cons d r =>
       have hlt3:i + 1 < t.length:=by have:=congrArg List.length hr; simp at this; omega
       rw [hr,e92] at hl
       have h2:=List.drop_eq_getElem_cons hlt3
       rw [hr] at h2
       injection h2 with h3 h4
       subst h3 h4
       have htb1:=htb (by first | exact e125 | (rw [ee]; decide))
       simp +contextual (maxSteps:=2000000) (disch:=omega) [-Int.not_lt,-Int.not_le,-Nat.not_lt,-Nat.not_le,sx,LnSt.env,hlt',hsz,hlt,hlt2,n10,n9,l32,l126,k92]
       (repeat' (first | apply And.intro | intro _))
       all_goals first | exact absurd (htb1 (by assumption)) (by assumption) | exact .of ⟨i + 1 + 1,tb,false,true,ty,op⟩ (LnSt.step (i:=i + 1) hlt3 (by simpa using hl) (by omega) (by omega) (by omega) (by omega) (by omega)) (by dsimp only; omega) (Wk.subs (by simp [LnSt.env] <;> omega) (by simp))
     have n92:((t[i].toNat:Int)=92)=False:=eq_false (l90 e92)
     by_cases e34:t[i]=34
     ·have ee:=e34
      have htb:=htbN
      have k34:(t[i].toNat:Int)=34:=ni0 e34
      have hl2:lnB (some t[i]) (t.drop (i + 1)) tb false false ty op=true:=by simpa [e34] using hl
      have htb1:=htb (by first | exact e125 | (rw [ee]; decide))
      simp +contextual (maxSteps:=2000000) (disch:=omega) [-Int.not_lt,-Int.not_le,-Nat.not_lt,-Nat.not_le,sx,LnSt.env,hlt',hsz,hlt,hlt2,n10,n9,l32,l126,k34]
      (repeat' (first | apply And.intro | intro _))
      all_goals first | exact absurd (htb1 (by assumption)) (by assumption) | exact .of ⟨i + 1,tb,false,false,ty,op⟩ (LnSt.step (by omega) (by first | exact hl2 | simpa using hl2) (by omega) (by omega) (by omega) (by omega) (by omega)) (by dsimp only; omega) (Wk.subs (by simp [LnSt.env] <;> omega) (by simp))
     have n34:((t[i].toNat:Int)=34)=False:=eq_false (l90 e34)
     have hl2:lnB (some t[i]) (t.drop (i + 1)) tb false true ty op=true:=by simpa [e34,e92] using hl
     by_cases e125:t[i]=125
     ·have k125:(t[i].toNat:Int)=125:=ni0 e125
      have htb:=htbC
      have htb1:=htb e125
      simp +contextual (maxSteps:=2000000) (disch:=omega) [-Int.not_lt,-Int.not_le,-Nat.not_lt,-Nat.not_le,sx,LnSt.env,hlt',hsz,hlt,hlt2,n10,n9,l32,l126,k125]
      (repeat' (first | apply And.intro | intro _))
      all_goals first | exact absurd (htb1 (by assumption)) (by assumption) | exact .of ⟨i + 1,tb,false,true,ty,op⟩ (LnSt.step (by omega) (by first | exact hl2 | simpa using hl2) (by omega) (by omega) (by omega) (by omega) (by omega)) (by dsimp only; omega) (Wk.subs (by simp [LnSt.env] <;> omega) (by simp))
     ·have n125:((t[i].toNat:Int)=125)=False:=eq_false (l90 e125)
      have htb:=htbN
      have htb1:=htb (by first | exact e125 | (rw [ee]; decide))
      simp +contextual (maxSteps:=2000000) (disch:=omega) [-Int.not_lt,-Int.not_le,-Nat.not_lt,-Nat.not_le,sx,LnSt.env,hlt',hsz,hlt,hlt2,n10,n9,l32,l126,n92,n34,n125]
      (repeat' (first | apply And.intro | intro _))
      all_goals first | exact absurd (htb1 (by assumption)) (by assumption) | exact .of ⟨i + 1,tb,false,true,ty,op⟩ (LnSt.step (by omega) (by first | exact hl2 | simpa using hl2) (by omega) (by omega) (by omega) (by omega) (by omega)) (by dsimp only; omega) (Wk.subs (by simp [LnSt.env] <;> omega) (by simp))
    ·by_cases e34:t[i]=34
     ·have ee:=e34
      have htb:=htbN
      have k34:(t[i].toNat:Int)=34:=ni0 e34
      have hl2:lnB (some t[i]) (t.drop (i + 1)) tb false true ty op=true:=by simpa [e34] using hl
      have htb1:=htb (by first | exact e125 | (rw [ee]; decide))
      simp +contextual (maxSteps:=2000000) (disch:=omega) [-Int.not_lt,-Int.not_le,-Nat.not_lt,-Nat.not_le,sx,LnSt.env,hlt',hsz,hlt,hlt2,n10,n9,l32,l126,k34]
      (repeat' (first | apply And.intro | intro _))
      all_goals first | exact absurd (htb1 (by assumption)) (by assumption) | exact .of ⟨i + 1,tb,false,true,ty,op⟩ (LnSt.step (by omega) (by first | exact hl2 | simpa using hl2) (by omega) (by omega) (by omega) (by omega) (by omega)) (by dsimp only; omega) (Wk.subs (by simp [LnSt.env] <;> omega) (by simp))
     have n34:((t[i].toNat:Int)=34)=False:=eq_false (l90 e34)
     by_cases e123:t[i]=123
     ·have ee:=e123
      have htb:=htbN
      have k123:(t[i].toNat:Int)=123:=ni0 e123
      by_cases hlt3:i + 1 < t.length
      ·have hlt4:(i:Int) + 1 < t.length:=by omega
       have hh:(t.drop (i + 1)).head?=some (t[i + 1]'hlt3):=by rw [List.head?_drop,List.getElem?_eq_getElem hlt3]
       by_cases e105:t[i + 1]=105
       ·have k105:(t[i + 1].toNat:Int)=105:=ni0 e105
        have hl2:lnB (some t[i]) (t.drop (i + 1)) tb false false (ty + 1) op=true:=by simpa [e34,e123,hh,e105] using hl
        have htb1:=htb (by first | exact e125 | (rw [ee]; decide))
        simp +contextual (maxSteps:=2000000) (disch:=omega) [-Int.not_lt,-Int.not_le,-Nat.not_lt,-Nat.not_le,sx,LnSt.env,hlt',hsz,hlt,hlt2,n10,n9,l32,l126,k123,hlt3,hlt4,k105]
        (repeat' (first | apply And.intro | intro _))
        all_goals first | exact absurd (htb1 (by assumption)) (by assumption) | exact .of ⟨i + 1,tb,false,false,ty + 1,op⟩ (LnSt.step (by omega) (by first | exact hl2 | simpa using hl2) (by omega) (by omega) (by omega) (by omega) (by omega)) (by dsimp only; omega) (Wk.subs (by simp [LnSt.env] <;> omega) (by simp))
       have n105:((t[i + 1].toNat:Int)=105)=False:=eq_false (l90 e105)
       by_cases e116:t[i + 1]=116
       ·have k116:(t[i + 1].toNat:Int)=116:=ni0 e116
        have hl2:lnB (some t[i]) (t.drop (i + 1)) tb false false (ty + 1) op=true:=by simpa [e34,e123,hh,e116] using hl
        have htb1:=htb (by first | exact e125 | (rw [ee]; decide))
        simp +contextual (maxSteps:=2000000) (disch:=omega) [-Int.not_lt,-Int.not_le,-Nat.not_lt,-Nat.not_le,sx,LnSt.env,hlt',hsz,hlt,hlt2,n10,n9,l32,l126,k123,hlt3,hlt4,k116,n105]
        (repeat' (first | apply And.intro | intro _))
        all_goals first | exact absurd (htb1 (by assumption)) (by assumption) | exact .of ⟨i + 1,tb,false,false,ty + 1,op⟩ (LnSt.step (by omega) (by first | exact hl2 | simpa using hl2) (by omega) (by omega) (by omega) (by omega) (by omega)) (by dsimp only; omega) (Wk.subs (by simp [LnSt.env] <;> omega) (by simp))
       have n116:((t[i + 1].toNat:Int)=116)=False:=eq_false (l90 e116)
       have hl2:lnB (some t[i]) (t.drop (i + 1)) tb false false ty (op + 1)=true:=by simpa [e34,e123,hh,e105,e116] using hl
       have htb1:=htb (by first | exact e125 | (rw [ee]; decide))
       simp +contextual (maxSteps:=2000000) (disch:=omega) [-Int.not_lt,-Int.not_le,-Nat.not_lt,-Nat.not_le,sx,LnSt.env,hlt',hsz,hlt,hlt2,n10,n9,l32,l126,k123,hlt3,hlt4,n105,n116]
       (repeat' (first | apply And.intro | intro _))
       all_goals first | exact absurd (htb1 (by assumption)) (by assumption) | exact .of ⟨i + 1,tb,false,false,ty,op + 1⟩ (LnSt.step (by omega) (by first | exact hl2 | simpa using hl2) (by omega) (by omega) (by omega) (by omega) (by omega)) (by dsimp only; omega) (Wk.subs (by simp [LnSt.env] <;> omega) (by simp))
      ·have hge4:¬ (i:Int) + 1 < t.length:=by omega
       have hh:t.drop (i + 1)=[]:=List.drop_eq_nil_iff.2 (by omega)
       have hl2:lnB (some t[i]) (t.drop (i + 1)) tb false false ty (op + 1)=true:=by simpa [e34,e123,hh] using hl
       have htb1:=htb (by first | exact e125 | (rw [ee]; decide))
       simp +contextual (maxSteps:=2000000) (disch:=omega) [-Int.not_lt,-Int.not_le,-Nat.not_lt,-Nat.not_le,sx,LnSt.env,hlt',hsz,hlt,hlt2,n10,n9,l32,l126,k123,hge4]
       (repeat' (first | apply And.intro | intro _))
       all_goals first | exact absurd (htb1 (by assumption)) (by assumption) | exact .of ⟨i + 1,tb,false,false,ty,op + 1⟩ (LnSt.step (by omega) (by first | exact hl2 | simpa using hl2) (by omega) (by omega) (by omega) (by omega) (by omega)) (by dsimp only; omega) (Wk.subs (by simp [LnSt.env] <;> omega) (by simp))
     have n123:((t[i].toNat:Int)=123)=False:=eq_false (l90 e123)
     by_cases e125:t[i]=125
     ·have k125:(t[i].toNat:Int)=125:=ni0 e125
      have htb:=htbC
      by_cases hty:0 < ty
      ·have hty2:(0:Int) < ty:=by omega
       have hl2:lnB (some t[i]) (t.drop (i + 1)) tb false false (ty - 1) op=true:=by simpa [e34,e125,hty] using hl
       have hcast:(ty:Int) - 1=((ty - 1:Nat):Int):=by omega
       have htb1:=htb e125
       simp +contextual (maxSteps:=2000000) (disch:=omega) [-Int.not_lt,-Int.not_le,-Nat.not_lt,-Nat.not_le,sx,LnSt.env,hlt',hsz,hlt,hlt2,n10,n9,l32,l126,k125,hty,hty2,hcast]
       (repeat' (first | apply And.intro | intro _))
       all_goals first | exact absurd (htb1 (by assumption)) (by assumption) | exact .of ⟨i + 1,tb,false,false,ty - 1,op⟩ (LnSt.step (by omega) (by first | exact hl2 | simpa using hl2) (by omega) (by omega) (by omega) (by omega) (by omega)) (by dsimp only; omega) (Wk.subs (by simp [LnSt.env] <;> omega) (by simp))
      ·have hty2:¬ (0:Int) < ty:=by omega
       have hl2:lnB (some t[i]) (t.drop (i + 1)) tb false false ty (op - 1)=true:=by simpa [e34,e125,hty] using hl
       have htb1:=htb e125
       simp +contextual (maxSteps:=2000000) (disch:=omega) [-Int.not_lt,-Int.not_le,-Nat.not_lt,-Nat.not_le,sx,LnSt.env,hlt',hsz,hlt,hlt2,n10,n9,l32,l126,k125,hty,hty2]
       (repeat' (first | apply And.intro | intro _))
       all_goals first | exact absurd (htb1 (by assumption)) (by assumption) | exact .of ⟨i + 1,tb,false,false,ty,op - 1⟩ (LnSt.step (by omega) (by first | exact hl2 | simpa using hl2) (by omega) (by omega) (by omega) (by omega) (by omega)) (by dsimp only; omega) (Wk.subs (by simp [LnSt.env] <;> omega) (by simp))
     ·have n125:((t[i].toNat:Int)=125)=False:=eq_false (l90 e125)
      have htb:=htbN
      have hl2:lnB (some t[i]) (t.drop (i + 1)) tb false false ty op=true:=by simpa [e34,e123,e125] using hl
      have htb1:=htb (by first | exact e125 | (rw [ee]; decide))
      simp +contextual (maxSteps:=2000000) (disch:=omega) [-Int.not_lt,-Int.not_le,-Nat.not_lt,-Nat.not_le,sx,LnSt.env,hlt',hsz,hlt,hlt2,n10,n9,l32,l126,n34,n123,n125]
      (repeat' (first | apply And.intro | intro _))
      all_goals first | exact absurd (htb1 (by assumption)) (by assumption) | exact .of ⟨i + 1,tb,false,false,ty,op⟩ (LnSt.step (by omega) (by first | exact hl2 | simpa using hl2) (by omega) (by omega) (by omega) (by omega) (by omega)) (by dsimp only; omega) (Wk.subs (by simp [LnSt.env] <;> omega) (by simp))
   ·have hge:¬ (i:Int) < t.length:=by omega
    have:i=t.length:=by omega
    subst this
    rw [List.drop_length,lnB.eq_def] at hl
    dsimp only at hl
    simp only [Bool.and_eq_true,decide_eq_true_eq,Bool.not_eq_true'] at hl
    obtain ⟨⟨⟨hp,rfl⟩,rfl⟩,rfl⟩:=hl
    have hpos:0 < t.length:=by
     rcases Nat.eq_zero_or_pos t.length with h0 | h0
     ·unfold oQ0 at hp; rw [if_pos h0] at hp; cases hp
     ·exact h0
    have hpos2:(0:Int) < t.length:=by omega
    have hk:=ni0 (c:=t[t.length - 1]'(by omega)) (d:=10) (by
     unfold oQ0 at hp
     rw [if_neg (by omega),List.getElem?_eq_getElem (by omega)] at hp
     injection hp)
    simp +contextual (maxSteps:=2000000) (disch:=omega) [-Int.not_lt,-Int.not_le,-Nat.not_lt,-Nat.not_le,sx,LnSt.env,hge,hsz,hpos,hpos2,hk]
    refine ax0 [] ?_
    exact rT0
  ·have hA:nF0 t=.tup [vS (bS []),vI 3]:=by unfold nF0; rw [if_neg ht]
   rw [hA] at hS
   refine ao0 ?_; simp; refine aj0 (hS) (by simp) ?_
   refine rS0 ?_
   refine ax0 [] ?_
   exact rT0
end Go.Am
end

section
namespace Go.Proofs.YtnlggapedakocaaGreatDoor.showLines
open Go.ChangeShapes Go.WideShapes Go.ChangeAt Go.RowKit
open Go.Am (imW vI vB vS pD0)
set_option maxRecDepth 100000
def T8 (t:TypeId):Prop:=t=9
theorem flat8:∀ t,T8 t->Go.Am.rJ0 Tryz.prog T8 t:=by
 intro t h
 obtain rfl:t=9:=h
 unfold Go.Am.rJ0
 rw [Tryz.underlying9]; trivial
theorem args8:∀ t ∈ Tryz.f8.params.toList,T8 t:=by
 rw [Tryz.params8]; intro t ht; simp at ht; subst ht; rfl
theorem contract (H:Type) (enc:TypeId × Value->H) (W:World) (base:Nat) (args:Array Value) (ds gs:List (DataW H)) (before:List MemPlace)
  (hval:∀ (j:Nat) t v,Tryz.f8.params[j]?=some t->args[j]?=some v->Value.okWide Tryz.prog W .any base t v)
  (hW:DataW.Whole enc Tryz.prog Tryz.f8.params.toList Rows.showLinesSpec.vars false W args.toList ds gs before) (hL:laidMetH Tryz.prog Rows.showLinesRow.laid W) (hk:Rows.uptoSmall H (ds++gs)=true) :
  Calls Tryz.prog 8 args W fun e W'=>∃ v,e=.returned v/\Rows.showLinesSpec.post enc Tryz.prog Tryz.f8 false true false false W args v W':=by
 have hW':=hW
 obtain ⟨p,q,hA0,hV,rfl,hfz,hnd⟩:=hW
 have hA:DataW.TrodAll enc Tryz.prog W 0 (fun _=>true) true Tryz.f8.params.toList args.toList ds p:=hA0
 rw [Tryz.params8] at hA hval
 obtain ⟨a0,vs0,d0,ds0,p0,q0,hargs,rfl,rfl,h0,r0⟩:=trodAll_cons hA
 obtain ⟨rfl,rfl,rfl⟩:=trodAll_nil r0
 obtain rfl:args=#[a0]:=by cases args; simp_all
 obtain ⟨rfl,rfl⟩:=trodVars_none hV
 have hbk:Rows.uptoBulkAll ([d0]++[])<=1048576:=of_decide_eq_true hk
 simp only [List.append_nil,Rows.uptoBulkAll] at hbk
 obtain ⟨s,rfl⟩:=okWide_string Tryz.underlying9 (hval 0 9 a0 rfl rfl)
 obtain ⟨n1,t1⟩:=h0
 obtain ⟨s',e1,e2,_⟩:=DataW.trod_string Tryz.underlying9 t1
 have e1':s'=s:=by simpa [Value.cells] using e1.symm
 subst e1'
 obtain rfl:d0=.lit (.string s'.data.toList):=by injection e2
 have hsz:s'.size < 2 ^ 39:=by
  have:s'.data.toList.length=s'.size:=rfl
  simp only [Rows.uptoBulk] at hbk
  omega
 have hret:=Go.Am.no0 s' hsz
 have hcalled:=hret (imW W) Go.Am.Mu.bot #[.string s'] W
  ⟨rfl,fun j u hj=>by
   match j,hj with
   | 0,hj=>injection hj with hj; subst hj; exact .c _
   | j + 1,hj=>simp at hj⟩ (Go.Am.wd_imW (table hL))
 obtain ⟨fn,c,k1,k2,k3,_⟩:=Go.Am.eg0.ex
 have hrun:(callFunc 8 #[.string s']).run Tryz.prog W=.ok (.enter 8 #[.string s']) W:=by
  have k2':¬ fn.name = "runtime.NumGoroutine":=by simpa using k2
  simp [callFunc,k1,k2',k3]
 unfold Go.Am.dG0 at hcalled
 rw [hrun] at hcalled
 refine Calls.mono hcalled ?_
 rintro e W' ⟨r,H',μ',rfl,⟨x,rfl,hx⟩,hNj,hWd,_,_⟩
 obtain rfl:=hx.bS0
 have hkeep:∀ b,b < W.heap.size->W'.heap[b]?=W.heap[b]?:=fun b hb=>hNj.keep b hb (by simp [Go.Am.Owns,Go.Am.hpE])
 refine ⟨_,rfl,_,_,_,[],p0++[],[],hW',?_,?_,rfl,?_,fun h=>by cases h⟩
 ·exact trodAll_cons_mk (shut_bool Tryz.underlying4 _) trodAll_mk0
 ·exact Go.Am.lW0 flat8 hkeep args8 hA0 fun p hp=>by
   have:=hW'.lt p (by simpa using hp)
   simpa using this
 ·refine ⟨hNj.os,hNj.output,fun i hi=>?_⟩
  rw [hkeep i hi]
  split
  ·rename_i e1 e2
   rw [e1] at e2
   injection e2 with e2
   injection e2 with e3 e4 e5
   subst e3 e4 e5
   exact ⟨rfl,rfl,rfl,fun _ _=>rfl⟩
  ·rename_i e1 e2
   rw [e1] at e2
   injection e2 with e2
   injection e2 with e3 e4
   exact .inr ⟨e3.symm,e4.symm⟩
  ·rfl
end Go.Proofs.YtnlggapedakocaaGreatDoor.showLines
end

section
namespace Go.Proofs.YtnlggapedakocaaGreatDoor.showLines
open Go.ChangeShapes Go.WideShapes Go.ChangeAt Go.RowKit
set_option maxRecDepth 100000
def cellsP (d:DataW Unit):List Value:=match d with | .lit (.int k n)=>[Value.int k n] | .agg ps=>ps.map fun d=>(match d with | .lit (.int k n)=>Value.int k n | _=>Value.bool false) | _=>[]
def cellsD:DataW Unit->Array Value
 | .agg ps=>(ps.flatMap cellsP).toArray
 | _=>#[]
def lay (o:Obj) (d:DataW Unit):Obj:=match o with | .cells _ t frozen=>.cells (cellsD d) t frozen | o=>o
noncomputable def mO0 (os:Os):World :=
 { World.holding Tryz.prog os ⟨#[],#[],[]⟩ with heap:=(((((World.holding Tryz.prog os ⟨#[],#[],[]⟩).heap.modify 0 fun o=>lay o Rows.laid_internal_strconv_uint64pow10).modify 2 fun o=>lay o Rows.laid_math_bits_deBruijn32tab).modify 3 fun o=>lay o Rows.laid_math_bits_deBruijn64tab).modify 4 fun o=>lay o Rows.laid_unicode_utf8_first).modify 5 fun o=>lay o Rows.laid_unicode_utf8_acceptRanges }
abbrev wargs:Array Value:=#[.string ⟨#[]⟩]
theorem laid_met (os:Os):laidMet Tryz.prog Rows.showLinesRow.laid ((mO0 os).forCall (fun _ _=>0) ⟨#[],wargs,[]⟩).memory :=
 laidMet_of_run' 8 (by kernel_rfl) (by kernel_rfl)
theorem reads (os:Os) {H:Type} (enc:TypeId × Value->H):∃ places,DataW.whole enc Tryz.prog ((mO0 os).forCall (fun _ _=>0) ⟨#[],wargs,[]⟩).memory Tryz.f8.params.toList Rows.showLinesSpec.vars false wargs.toList 8 =
  some ([.lit (.string [])],[],places) :=
 ⟨[],by kernel_rfl⟩
theorem sg0 (os:Os) (started:os.Started) (H:Type) (enc:TypeId × Value->H) (F:Stop.Interp) :
  ReturnsInHanded {} Tryz.checked os 8 .any ((Rows.OpenSpec.upto Rows.showLinesSpec).preRow enc Tryz.prog Tryz.f8 Rows.showLinesUptoRow.domain false Rows.showLinesUptoRow.laid) (((Rows.OpenSpec.upto Rows.showLinesSpec).at F).post enc Tryz.prog Tryz.f8 false true false false):=by
 obtain ⟨places,hx⟩:=reads os enc
 refine returnsInHanded_of_row (C:=Tryz.checked) (s:=Rows.OpenSpec.upto Rows.showLinesSpec) own started (by kernel_rfl) Tryz.func8
  (witness_row_at (enc:=enc) (C:=Tryz.checked) false (mO0 os) wargs rfl (by kernel_rfl) (by kernel_rfl) (by kernel_rfl)
   (OpenSpec.preRow_of_cond 8 hx (by kernel_rfl) (fun k hk=>by cases hk; kernel_rfl) (by kernel_rfl) (laid_met os))) ?_
 intro W base args ds gs before hval hW _ hcond _ hL _ _
 exact contract H enc W base args ds gs before hval hW hL (hcond _ rfl)
theorem saidUpto:Rows.ShowLinesUptoSaid :=
 OpenClaim.holds_of_cond 8 Tryz.f8 rfl rfl rfl rfl rfl rfl rfl ⟨rfl,rfl,rfl,rfl,rfl⟩ rfl rfl rfl rfl rfl (by kernel_rfl) Tryz.func8 (by kernel_rfl)
  (of_decide_eq_true (by kernel_rfl)) (by unfold Func.isWrapper; first | (rw [if_pos (by decide +kernel)]; kernel_rfl) | (rw [if_neg (by decide +kernel)]; exact ⟨rfl,rfl⟩))
  (fun os started H enc _ F=>by rw [OpenClaim.pre_eq_preRow]; exact sg0 os started H enc F)
theorem plain (f:FuncId) (fn:Func) (hf:Tryz.pinned.checked.prog.funcNamed "quern/quernlaw08.ShowLines"=some f) (hfn:Tryz.pinned.checked.prog.funcs[f]?=some fn) :
  true=Tryz.pinned.checked.prog.looks []/\∀ (j:Nat) t,fn.params[j]?=some t->Tryz.pinned.checked.prog.wantsStandIn t=false:=by
 obtain rfl:f=8:=Option.some.inj ((show Tryz.prog.funcNamed "quern/quernlaw08.ShowLines"=some 8 by kernel_rfl).symm.trans hf) |>.symm
 obtain rfl:fn=Tryz.f8:=(Option.some.inj (Tryz.func8.symm.trans hfn)).symm
 refine ⟨by kernel_rfl,fun j t ht=>?_⟩
 rw [Tryz.params8] at ht
 have hm:=Array.mem_of_getElem? ht
 simp at hm
 subst hm
 exact (show Tryz.prog.wantsStandIn 9=false by kernel_rfl)
theorem cardUpto:Rows.ShowLinesUptoCardSaid :=
 Claim7.holds_tied_plain_at .later [] _ _ _ _ saidUpto (fun _ h=>by cases h) (by kernel_rfl) (fun _ h=>by cases h) showLinesUpto_row_tie rfl ⟨rfl,rfl⟩ (by kernel_rfl) rfl plain (by kernel_rfl)
end Go.Proofs.YtnlggapedakocaaGreatDoor.showLines
end
