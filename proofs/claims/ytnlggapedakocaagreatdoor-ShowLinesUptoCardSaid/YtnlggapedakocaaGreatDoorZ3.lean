/- ShowLines of the given program, part 3 of 5 of the proof: for all arguments within the bound the law answers true, and each argument reads behind the call as before. Conditions: those of the given card. -/
import Derived.Test.YtnlggapedakocaaGreatDoorZ2
import Derived.Test.YtnlggapedakocaaGreatDoorProg
import Derived.KernelRfl
import Derived.Lib.Bytealg
import Derived.Defers
import Derived.Recover
set_option maxHeartbeats 1600000
set_option linter.all false
set_option linter.unusedVariables false
set_option linter.unusedSimpArgs false
set_option linter.unnecessarySimpa false
section
set_option maxRecDepth 100000
namespace Go.Am
open Go.Proofs
noncomputable abbrev prog:Program:=Tryz.prog
@[simp] abbrev sR (l:List I) (c:Cd):Cd:=.seq (.reg l) c
@[simp] abbrev cO (t:Nat) (a b:Cd):Cd:=.cond (.tmp t) a b
@[simp] abbrev cC (d f:Nat) (l:List Operand):I:=⟨some d,none,.call (.func f) l⟩
@[simp] abbrev pT (d c x:Nat):I:=⟨some d,none,.pick (.tmp c) (.const (.bool true)) (.tmp x)⟩
@[simp] abbrev pF (d c x:Nat):I:=⟨some d,none,.pick (.tmp c) (.tmp x) (.const (.bool false))⟩
@[simp] abbrev bX (d n s:Nat):I:=⟨some d,none,.box n (.tmp s)⟩
@[simp] abbrev zI:V:=.c (.int .i64 0)
@[simp] abbrev zS:V:=.c (.string ⟨⟨[]⟩⟩)
@[simp] abbrev xL (d p:Nat) (b:Bool) (s:Nat):I:=⟨some d,some (p,b),.len (.tmp s)⟩
@[simp] abbrev xA (d p:Nat) (b:Bool) (n s:Nat):I:=⟨some d,some (p,b),.lda n (.tmp s)⟩
@[simp] abbrev tT (n:Nat):Operand:=.tmp n
@[simp] abbrev iC (k:Int):Operand:=.const (.int .i64 k)
@[simp] abbrev bC (b:Bool):Operand:=.const (.bool b)
@[simp] abbrev oO (d:Nat) (x:IOp):I:=⟨some d,none,x⟩
@[simp] abbrev nO (x:IOp):I:=⟨none,none,x⟩
@[simp] abbrev gO (d p:Nat) (b:Bool) (x:IOp):I:=⟨some d,some (p,b),x⟩
@[simp] abbrev mM (d s:Nat):I:=⟨some d,none,.mv (.tmp s)⟩
@[simp] abbrev mC (d:Nat) (k:Int):I:=⟨some d,none,.mv (.const (.int .i64 k))⟩
@[simp] abbrev mB (d:Nat) (b:Bool):I:=⟨some d,none,.mv (.const (.bool b))⟩
@[simp] abbrev lD (d s:Nat):I:=⟨some d,none,.ld (.tmp s)⟩
@[simp] abbrev lN (d s:Nat):I:=⟨some d,none,.len (.tmp s)⟩
@[simp] abbrev lS (d s:Nat):I:=⟨some d,none,.lenS (.tmp s)⟩
@[simp] abbrev nC (d s:Nat):I:=⟨some d,none,.nchk (.tmp s)⟩
@[simp] abbrev lA (d n s:Nat):I:=⟨some d,none,.lda n (.tmp s)⟩
@[simp] abbrev fA (d k s:Nat):I:=⟨some d,none,.fa k (.tmp s)⟩
@[simp] abbrev bB (d:Nat) (o:BinOp) (a b:Nat):I:=⟨some d,none,.bin o (.tmp a) (.tmp b)⟩
@[simp] abbrev bI (d:Nat) (o:BinOp) (a:Nat) (k:Int):I:=⟨some d,none,.bin o (.tmp a) (.const (.int .i64 k))⟩
@[simp] abbrev iA (d n a b:Nat):I:=⟨some d,none,.ia n (.tmp a) (.tmp b)⟩
@[simp] abbrev sT (n a b:Nat):I:=⟨none,none,.st n (.tmp a) (.tmp b)⟩
@[simp] abbrev eX (d s k:Nat):I:=⟨some d,none,.ext (.tmp s) k⟩
@[simp] abbrev xM (d p:Nat) (b:Bool) (s:Nat):I:=⟨some d,some (p,b),.mv (.tmp s)⟩
@[simp] abbrev xD (d p:Nat) (b:Bool) (s:Nat):I:=⟨some d,some (p,b),.ld (.tmp s)⟩
@[simp] abbrev xF (d p:Nat) (b:Bool) (k s:Nat):I:=⟨some d,some (p,b),.fa k (.tmp s)⟩
@[simp] abbrev xI (d p:Nat) (b:Bool) (o:BinOp) (a:Nat) (k:Int):I:=⟨some d,some (p,b),.bin o (.tmp a) (.const (.int .i64 k))⟩
@[simp] abbrev dQ0:Nat:=24
@[simp] abbrev rB0:Nat:=38
@[simp] abbrev n90:Nat:=41
@[simp] abbrev k60:Nat:=55
@[simp] abbrev eL0:Nat:=74
@[simp] abbrev ks0:Nat:=88
@[simp] abbrev bZ0:Nat:=94
abbrev ev0:Nat:=8
abbrev gJ0:Nat:=9
abbrev hX0:Nat:=10
abbrev kd0:Nat:=12
abbrev mC0:Nat:=14
abbrev pq0:Nat:=17
abbrev f00:Nat:=18
abbrev eu0:Nat:=19
abbrev kE0:Nat:=20
abbrev hY0:Nat:=21
abbrev cV0:Nat:=22
abbrev jY0:Nat:=23
abbrev mE0:Nat:=24
abbrev eB0:Nat:=25
abbrev dw0:Nat:=26
abbrev fx0:Nat:=27
abbrev c30:Nat:=28
abbrev bv0:Nat:=29
abbrev mD0:Nat:=31
abbrev kc0:Nat:=35
abbrev eA0:Nat:=36
abbrev iE0:Nat:=37
abbrev fY0:Nat:=38
abbrev gg0:Nat:=39
abbrev gb0:Nat:=40
abbrev cB0:Nat:=41
abbrev ge0:Nat:=42
abbrev gc0:Nat:=43
abbrev gf0:Nat:=44
abbrev ea0:Nat:=45
abbrev cK0:Nat:=46
abbrev d00:Nat:=47
abbrev nM0:Nat:=48
abbrev ij0:Nat:=49
abbrev dK0:Nat:=51
abbrev gj0:Nat:=55
abbrev fZ0:Nat:=57
abbrev gl0:Nat:=58
abbrev ih0:Nat:=59
abbrev gH0:Nat:=60
abbrev ii0:Nat:=61
abbrev kD0:Nat:=62
abbrev gk0:Nat:=63
abbrev hy0:Nat:=64
abbrev gd0:Nat:=65
abbrev bV0:Nat:=66
abbrev a30:Nat:=67
abbrev cr0:Nat:=68
abbrev bX0:Nat:=69
abbrev fD0:Nat:=70
abbrev jZ0:Nat:=71
abbrev bj0:Nat:=72
abbrev gh0:Nat:=74
abbrev cl0:Nat:=78
abbrev cn0:Nat:=79
abbrev bW0:Nat:=80
abbrev cm0:Nat:=81
abbrev gI0:Nat:=82
abbrev ga0:Nat:=83
abbrev bu0:Nat:=84
abbrev ew0:Nat:=92
abbrev eb0:Nat:=93
abbrev dM0:Nat:=94
abbrev bA0:Nat:=97
abbrev fy0:Nat:=99
abbrev mA0:Nat:=100
abbrev mB0:Nat:=101
abbrev gi0:Nat:=102
abbrev eR0:Nat:=103
abbrev lM0:Nat:=104
abbrev lL0:Nat:=105
abbrev lN0:Nat:=106
abbrev dS0:Nat:=110
abbrev b30:Nat:=111
abbrev a90:Nat:=112
abbrev dj0:Nat:=113
abbrev c40:Nat:=119
abbrev cJ0:Nat:=123
abbrev ke0:Nat:=124
abbrev hV0:Nat:=125
abbrev eS0:Nat:=126
abbrev gz0:Nat:=127
abbrev bp0:Nat:=133
abbrev jX0:Nat:=142
abbrev bG0:Nat:=143
abbrev hw0:Nat:=144
abbrev dL0:Nat:=150
abbrev et0:Nat:=151
abbrev cz0:Nat:=152
abbrev bb0:Nat:=159
abbrev cW0:Nat:=160
abbrev bM0:Nat:=208
abbrev mF0:Nat:=210
def dX0:Cd:=sR [mB 2 false] (.seq (sR [cC 16 9 [],oO 17 (.un .not (tT 16))] (cO 17 (sR [mB 2 false] .ret) .skip)) (sR [mM 19 0,cC 20 10 [tT 19],mM 18 20,eX 21 18 0,eX 22 18 1,eX 23 18 2,oO 3 (.alloc [zI,.nil,.nil]),sT 3 3 21,mM 4 22,mM 5 23] (.seq (sR [mM 24 5,bI 25 .neq 24 0] (cO 25 (sR [mB 2 true] .ret) .skip)) (sR [lA 27 3 3,cC 28 12 [tT 27],mM 26 28,eX 29 26 0,eX 30 26 1,mM 6 29,mM 7 30] (.seq (sR [mM 31 7,bI 32 .neq 31 0] (cO 32 (sR [mM 33 7,bI 34 .eql 33 3,mM 2 34] .ret) .skip)) (sR [mC 8 0,mB 9 true,mB 10 false,mC 11 0] (sR [mC 12 0] (.seq (sR [mC 13 0] (.blk 0 (.loop (.seq (sR [mM 35 13,mM 36 6,lS 37 36,bB 38 .lss 35 37] (cO 38 .skip (.exit 0))) (.seq (.blk 1 (sR [mM 41 6,mM 42 13,oO 43 (.ixS (tT 41) (tT 42)),mM 14 43] (.seq (sR [mM 44 14,oO 45 (.bin .eql (tT 44) (.const (.int .u8 10)))] (cO 45 (.seq (sR [mM 46 13,bI 47 .gtr 46 0,mM 48 47,xM 49 48 true 6,xM 50 48 true 13,xI 51 48 true .sub 50 1,gO 52 48 true (.ixS (tT 49) (tT 51)),gO 53 48 true (.bin .eql (tT 52) (.const (.int .u8 32))),xM 54 48 true 53,xM 55 54 false 6,xM 56 54 false 13,xI 57 54 false .sub 56 1,gO 58 54 false (.ixS (tT 55) (tT 57)),gO 59 54 false (.bin .eql (tT 58) (.const (.int .u8 9))),gO 60 48 true (.pick (tT 54) (bC true) (tT 59)),pF 61 48 60,mM 62 61,xM 63 62 false 10,pT 64 62 63] (cO 64 (sR [mB 2 false] .ret) .skip)) (sR [mB 9 true,mC 8 0] (.exit 1))) .skip)) (.seq (sR [mM 65 14,oO 66 (.bin .eql (tT 65) (.const (.int .u8 9)))] (cO 66 (.seq (sR [mM 67 9,oO 68 (.un .not (tT 67))] (cO 68 (sR [mB 2 false] .ret) .skip)) (sR [mM 69 8,bI 70 .add 69 1,mM 8 70] (.exit 1))) .skip)) (.seq (sR [mM 71 14,oO 72 (.bin .lss (tT 71) (.const (.int .u8 32))),mM 73 72,xM 74 73 false 14,gO 75 73 false (.bin .gtr (tT 74) (.const (.int .u8 126))),pT 76 73 75] (cO 76 (sR [mB 2 false] .ret) .skip)) (.seq (sR [mM 77 9] (cO 77 (sR [mB 9 false] (sR [mM 78 12,mM 15 78] (.seq (sR [mM 79 14,oO 80 (.bin .eql (tT 79) (.const (.int .u8 125)))] (cO 80 (.reg [mM 81 15,bI 82 .sub 81 1,mM 15 82]) .skip)) (sR [mM 83 8,mM 84 15,bB 85 .neq 83 84] (cO 85 (sR [mB 2 false] .ret) .skip))))) .skip)) (.blk 2 (sR [mM 87 10,mM 88 87,xM 89 88 true 14,gO 90 88 true (.bin .eql (tT 89) (.const (.int .u8 92))),pF 91 88 90,mM 86 91] (cO 86 (.reg [mM 92 13,bI 93 .add 92 1,mM 13 93]) (sR [mM 95 14,oO 96 (.bin .eql (tT 95) (.const (.int .u8 34))),mM 94 96] (cO 94 (.reg [mM 97 10,oO 98 (.un .not (tT 97)),mM 10 98]) (sR [mM 100 10,mM 99 100] (cO 99 .skip (sR [mM 102 14,oO 103 (.bin .eql (tT 102) (.const (.int .u8 123))),mM 104 103,xM 105 104 true 13,xI 106 104 true .add 105 1,xM 107 104 true 6,gO 108 104 true (.lenS (tT 107)),gO 109 104 true (.bin .lss (tT 106) (tT 108)),pF 110 104 109,mM 111 110,xM 112 111 true 6,xM 113 111 true 13,xI 114 111 true .add 113 1,gO 115 111 true (.ixS (tT 112) (tT 114)),gO 116 111 true (.bin .eql (tT 115) (.const (.int .u8 105))),xM 117 111 true 116,xM 118 117 false 6,xM 119 117 false 13,xI 120 117 false .add 119 1,gO 121 117 false (.ixS (tT 118) (tT 120)),gO 122 117 false (.bin .eql (tT 121) (.const (.int .u8 116))),gO 123 111 true (.pick (tT 117) (bC true) (tT 122)),pF 124 111 123,mM 101 124] (cO 101 (.reg [mM 125 11,bI 126 .add 125 1,mM 11 126]) (sR [mM 128 14,oO 129 (.bin .eql (tT 128) (.const (.int .u8 125))),mM 130 129,xM 131 130 true 11,xI 132 130 true .gtr 131 0,pF 133 130 132,mM 127 133] (cO 127 (.reg [mM 134 11,bI 135 .sub 134 1,mM 11 135]) (sR [mM 137 14,oO 138 (.bin .eql (tT 137) (.const (.int .u8 123))),mM 136 138] (cO 136 (.reg [mM 139 12,bI 140 .add 139 1,mM 12 140]) (sR [mM 142 14,oO 143 (.bin .eql (tT 142) (.const (.int .u8 125))),mM 141 143] (cO 141 (.reg [mM 144 12,bI 145 .sub 144 1,mM 12 145]) .skip))))))))))))))))))))) (.reg [mM 39 13,bI 40 .add 39 1,mM 13 40])))))) (sR [mM 146 6,lS 147 146,bI 148 .gtr 147 0,mM 149 148,xM 150 149 true 6,xM 151 149 true 6,gO 152 149 true (.lenS (tT 151)),xI 153 149 true .sub 152 1,gO 154 149 true (.ixS (tT 150) (tT 153)),gO 155 149 true (.bin .eql (tT 154) (.const (.int .u8 10))),pF 156 149 155,mM 157 156,xM 158 157 true 12,xI 159 157 true .eql 158 0,pF 160 157 159,mM 161 160,xM 162 161 true 11,xI 163 161 true .eql 162 0,pF 164 161 163,mM 165 164,xM 166 165 true 10,gO 167 165 true (.un .not (tT 166)),pF 168 165 167,mM 2 168] .ret)))))))))
theorem eg0:FnIs prog ev0 169 dX0 [(.mv (.tmp 2))]:=.of (fn:=Tryz.f8) Tryz.func8 (by kernel_rfl)
def fU0:Cd:=sR [mB 0 false] (sR [oO 7 (.call (.func 10) [.const (.string ⟨⟨[118,101,114,115,105,111,110,32,49,59,102,110,32,102,40,41,58,105,110,116,123,114,101,116,32,40,40,49,43,50,41,42,51,41,45,40,45,52,41,59,125]⟩⟩)]),mM 6 7,eX 8 6 0,eX 9 6 1,eX 10 6 2,oO 1 (.alloc [zI,.nil,.nil]),sT 3 1 8,mM 2 9,mM 3 10] (sR [lA 12 3 1,cC 13 12 [tT 12],mM 11 13,eX 14 11 0,eX 15 11 1,mM 4 14,mM 5 15] (sR [mM 16 3,bI 17 .eql 16 0,mM 18 17,xM 19 18 true 5,xI 20 18 true .eql 19 0,pF 21 18 20,mM 22 21,xM 23 22 true 4,gO 24 22 true (.bin .eql (tT 23) (.const (.string ⟨⟨[118,101,114,115,105,111,110,32,49,59,10,102,110,32,102,40,41,58,32,105,110,116,32,123,10,9,114,101,116,32,40,49,32,43,32,50,41,32,42,32,51,32,45,32,45,52,59,10,125,10]⟩⟩))),pF 25 22 24,mM 0 25] .ret)))
theorem kh0:FnIs prog gJ0 26 fU0 [(.mv (.tmp 0))]:=.of (fn:=Tryz.f9) Tryz.func9 (by kernel_rfl)
def j00:FCd:=.seq (.reg [oO 2 (.alloc [.c (.int .i64 0),.nil,.nil]),oO 3 (.alloc [.c (.int .i64 0)]),oO 4 (.alloc [.c (.int .i64 0)])]) (.seq (.reg [mM 8 0,oO 9 (.call (.func 17) [tT 8]),mM 7 9,eX 10 7 0,eX 11 7 1,eX 12 7 2,mM 5 10,sT 1 3 11,sT 1 4 12]) (.seq (.reg [lD 13 4,bI 14 .neq 13 0]) (.seq (.cond (tT 14) (.seq (.dreg ⟨[(oO 15 (.build [.c (.int .i64 0),.nil,.nil] []),[]),(lD 16 3,[]),(lD 17 4,[]),(sT 3 2 15,[0]),(sT 1 3 16,[0,1,3])],[sT 1 4 17],[]⟩) .ret) .skip) (.dfr [oO 18 (.mkfn 18 [tT 2,tT 3,tT 4])] (tT 18) [] (.seq (.seq (.reg [mM 19 5,oO 20 (.build [.nil,.c (.int .i64 0)] [(0,1,tT 19)]),oO 21 (.box 2 (tT 20)),mM 6 21]) (.seq (.reg [mM 22 6,oO 23 (.call (.func 19) [tT 22]),sT 3 2 23,nO (.st 1 (tT 3) (iC 0)),nO (.st 1 (tT 4) (iC 0))]) .ret)) .skip)))))
theorem nv0:FnD prog hX0 24 j00 [(.lda 3 (.tmp 2)),(.ld (.tmp 3)),(.ld (.tmp 4))]:=.of (fn:=Tryz.f10) Tryz.func10 (by kernel_rfl)
def lO0:FCd:=.seq (.reg [oO 1 (.box 3 (tT 0)),oO 2 (.alloc [.c (.string ⟨⟨[]⟩⟩)]),oO 3 (.alloc [.c (.int .i64 0)])]) (.dfr [oO 13 (.mkfn 20 [tT 2,tT 3])] (tT 13) [] (.seq (.seq (.reg [oO 14 (.build [.c (.pointer none),.nil] []),oO 15 (.boxS 69 2 (tT 14)),mM 4 15]) (.seq (.reg [fA 16 0 1,lD 17 16,bI 18 .geq 17 0,oO 19 (.call (.func 21) [tT 18])]) (.seq (.reg [mM 20 4,fA 21 0 1,lD 22 21,oO 23 (.call (.func 23) [tT 22]),oO 24 (.mkrow 9 1 [.const (.string ⟨⟨[118,101,114,115,105,111,110,32]⟩⟩),tT 23,.const (.string ⟨⟨[59,10]⟩⟩)]),oO 25 (.call (.func 22) [tT 20,tT 24])]) (.seq (.seq (.reg [fA 26 1 1,lD 27 26,lN 28 27,mC 29 0]) (.blk 0 (.loop (.seq (.reg [bB 30 .lss 29 28]) (.seq (.cond (tT 30) .skip (.exit 0)) (.seq (.blk 1 (.seq (.reg [iA 31 3 27 29,lA 32 3 31,oO 6 (.alloc [.c (.string ⟨⟨[]⟩⟩),.c (.string ⟨⟨[]⟩⟩),.c (.int .i64 0)]),sT 3 6 32]) (.reg [mM 33 4,lA 34 3 6,oO 35 (.call (.func 24) [tT 34]),oO 36 (.mkrow 9 1 [.const (.string ⟨⟨[115,116,97,116,101,32]⟩⟩),tT 35,.const (.string ⟨⟨[59,10]⟩⟩)]),oO 37 (.call (.func 22) [tT 33,tT 36])]))) (.reg [bI 38 .add 29 1,mM 29 38]))))))) (.seq (.seq (.reg [fA 39 2 1,lD 40 39,lN 41 40,mC 42 0]) (.blk 2 (.loop (.seq (.reg [bB 43 .lss 42 41]) (.seq (.cond (tT 43) .skip (.exit 2)) (.seq (.blk 3 (.seq (.reg [iA 44 7 40 42,lA 45 7 44,oO 8 (.alloc [.c (.string ⟨⟨[]⟩⟩),.c (.bool false),.nil,.c (.string ⟨⟨[]⟩⟩),.nil,.nil,.c (.int .i64 0)]),sT 7 8 45]) (.seq (.reg [oO 9 (.mv (.const (.string ⟨⟨[102,110,32]⟩⟩)))]) (.seq (.seq (.reg [fA 46 1 8,lD 47 46]) (.cond (tT 47) (.reg [oO 9 (.mv (.const (.string ⟨⟨[111,110,32]⟩⟩)))]) .skip)) (.seq (.reg [oO 10 (.mv (.const (.slice none 0 0)))]) (.seq (.seq (.reg [fA 48 2 8,lD 49 48,lN 50 49,mC 51 0]) (.blk 4 (.loop (.seq (.reg [bB 52 .lss 51 50]) (.seq (.cond (tT 52) .skip (.exit 4)) (.seq (.blk 5 (.seq (.reg [iA 53 3 49 51,lA 54 3 53,oO 12 (.alloc [.c (.string ⟨⟨[]⟩⟩),.c (.string ⟨⟨[]⟩⟩),.c (.int .i64 0)]),sT 3 12 54]) (.reg [mM 55 10,lA 56 3 12,oO 57 (.call (.func 24) [tT 56]),oO 58 (.mkrow 9 1 [tT 57]),oO 59 (.app 9 1 16 (tT 55) (tT 58)),mM 10 59]))) (.reg [bI 60 .add 51 1,mM 51 60]))))))) (.seq (.reg [fA 61 3 8,lD 62 61,oO 63 (.call (.func 14) [tT 62]),oO 64 (.call (.func 21) [tT 63])]) (.seq (.dreg ⟨[(mM 65 4,[]),(mM 66 9,[]),(fA 67 0 8,[]),(lD 68 67,[2]),(oO 69 (.call (.func 25) [tT 68]),[2,3]),(mM 70 10,[]),(oO 71 (.call (.func 26) [tT 70,.const (.string ⟨⟨[44,32]⟩⟩)]),[2,3,4,5]),(fA 72 3 8,[]),(lD 73 72,[7]),(oO 74 (.mkrow 9 1 [tT 66,tT 69,.const (.string ⟨⟨[40]⟩⟩),tT 71,.const (.string ⟨⟨[41,58,32]⟩⟩),tT 73,.const (.string ⟨⟨[32]⟩⟩)]),[1,2,3,4,5,6,7,8])],[oO 75 (.call (.func 22) [tT 65,tT 74])],[0,1,2,5,7]⟩) (.seq (.reg [mM 76 4,fA 77 5 8,lD 78 77,oO 79 (.call (.func 27) [tT 76,tT 78,.const (.string ⟨⟨[]⟩⟩)])]) (.reg [mM 80 4,oO 81 (.mkrow 9 1 [.const (.string ⟨⟨[10]⟩⟩)]),oO 82 (.call (.func 22) [tT 80,tT 81])])))))))))) (.reg [bI 83 .add 42 1,mM 42 83]))))))) (.seq (.seq (.reg [mM 84 4,nC 85 84,fA 86 0 85,oO 87 (.call (.func 28) [tT 86]),bI 88 .gtr 87 16384]) (.cond (tT 88) (.seq (.reg [nO (.st 1 (tT 2) (.const (.string ⟨⟨[]⟩⟩))),nO (.st 1 (tT 3) (iC 3))]) .ret) .skip)) (.seq (.reg [mM 89 4,nC 90 89,fA 91 0 90,oO 92 (.call (.func 29) [tT 91]),sT 1 2 92,nO (.st 1 (tT 3) (iC 0))]) .ret))))))) .skip))
theorem pu0:FnD prog kd0 93 lO0 [(.ld (.tmp 2)),(.ld (.tmp 3))]:=.of (fn:=Tryz.f12) Tryz.func12 (by kernel_rfl)
def lF0:Cd:=sR [mB 2 false] (sR [mM 3 0,cC 4 31 [tT 3,iC 1],mM 2 4] .ret)
theorem pv0:FnIs prog mC0 5 lF0 [(.mv (.tmp 2))]:=.of (fn:=Tryz.f14) Tryz.func14 (by kernel_rfl)
def le0:FCd:=.seq (.reg [oO 2 (.alloc [.nil]),oO 3 (.alloc [.c (.int .i64 0)]),oO 4 (.alloc [.c (.int .i64 0)])]) (.seq (.reg [mM 6 0,lS 7 6,bI 8 .gtr 7 16384]) (.seq (.cond (tT 8) (.seq (.reg [nO (.st 1 (tT 2) (.const (.slice none 0 0))),nO (.st 1 (tT 3) (iC 16384)),nO (.st 1 (tT 4) (iC 3))]) .ret) .skip) (.dfr [oO 9 (.mkfn 35 [tT 2,tT 3,tT 4])] (tT 9) [] (.seq (.seq (.reg [mM 10 0,oO 11 (.build [.c (.string ⟨⟨[]⟩⟩),.c (.int .i64 0),.nil] [(0,1,tT 10)]),oO 12 (.box 3 (tT 11)),mM 5 12]) (.seq (.seq (.reg [mM 13 5,oO 14 (.call (.func 36) [tT 13])]) (.blk 0 (.loop (.seq (.seq (.reg [mM 15 5,nC 16 15,fA 17 1 16,lD 18 17,mM 19 0,lS 20 19,bB 21 .lss 18 20]) (.cond (tT 21) .skip (.exit 0))) (.seq (.blk 1 (.reg [mM 24 5,oO 25 (.call (.func 37) [tT 24])])) (.reg [mM 22 5,oO 23 (.call (.func 36) [tT 22])])))))) (.seq (.reg [mM 26 5,oO 27 (.build [.c (.int .i64 0),.c (.string ⟨⟨[]⟩⟩),.c (.int .i64 0),.c (.int .i64 0)] [(0,1,iC 5)]),mM 28 5,nC 29 28,fA 30 1 29,lD 31 30,oO 32 (.call (.func 38) [tT 26,tT 27,tT 31])]) (.seq (.reg [mM 33 5,nC 34 33,fA 35 2 34,lD 36 35,sT 1 2 36,nO (.st 1 (tT 3) (iC 0)),nO (.st 1 (tT 4) (iC 0))]) .ret)))) .skip))))
theorem r40:FnD prog pq0 37 le0 [(.ld (.tmp 2)),(.ld (.tmp 3)),(.ld (.tmp 4))]:=.of (fn:=Tryz.f17) Tryz.func17 (by kernel_rfl)
def fd0:Cd:=.blk 0 (sR [oO 8 (.isni false (tT 6))] (cO 8 (.reg [mM 3 6]) (sR [oO 9 (.ta 55 (.agg ⟨[.int .i64 0,.int .i64 0]⟩) (tT 6)),eX 10 9 1,eX 11 9 0] (cO 10 (sR [oO 4 (.alloc [zI,zI]),sT 2 4 11] (.dreg ⟨[(oO 12 (.build [zI,.nil,.nil] []),[]),(fA 13 0 4,[]),(lD 14 13,[1]),(fA 15 1 4,[]),(lD 16 15,[3]),(sT 3 0 12,[0]),(sT 1 1 14,[0,1,2,5])],[sT 1 2 16],[1,3]⟩)) (sR [mM 5 6] (.reg [mM 7 5,nO (.pan (tT 7))]))))))
theorem im0:FnR prog f00 17 6 fd0 []:=.of (fn:=Tryz.f18) Tryz.func18 (by kernel_rfl)
def dW0:Cd:=sR [oO 2 (.alloc [zI,.nil,.nil])] (.seq (sR [mM 4 0,oO 5 (.call (.func 39) [tT 4,iC 1,.const (.string ⟨⟨[118,101,114,115,105,111,110]⟩⟩)]),oO 6 (.un .not (tT 5))] (cO 6 (.reg [mM 7 0,cC 8 40 [tT 7,iC 31]]) .skip)) (sR [mM 9 0,cC 10 41 [tT 9,iC 2],oO 11 (.fld 2 (tT 10)),oO 12 (.build [zI,.nil,.nil] [(0,1,tT 11)]),oO 3 (.alloc [zI,.nil,.nil]),sT 3 3 12] (sR [mM 13 0,oO 14 (.call (.func 42) [tT 13,.const (.string ⟨⟨[59]⟩⟩)])] (.seq (.blk 0 (.loop (.seq (sR [mM 15 0,cC 16 43 [tT 15],oO 17 (.fld 0 (tT 16)),bI 18 .neq 17 5] (cO 18 .skip (.exit 0))) (.blk 1 (.blk 2 (sR [mM 22 0,oO 23 (.call (.func 39) [tT 22,iC 1,.const (.string ⟨⟨[115,116,97,116,101]⟩⟩)]),mM 21 23] (cO 21 (.seq (.dreg ⟨[(fA 24 1 3,[]),(lD 25 24,[0]),(mM 26 0,[]),(cC 27 44 [tT 26],[2]),(oO 28 (.mkrow 74 3 [tT 27]),[2,3])],[oO 29 (.app 74 3 40 (tT 25) (tT 28)),fA 30 1 3,sT 1 30 29],[0,2]⟩) (.reg [mM 31 0,oO 32 (.call (.func 42) [tT 31,.const (.string ⟨⟨[59]⟩⟩)])])) (sR [mM 34 0,oO 35 (.call (.func 39) [tT 34,iC 1,.const (.string ⟨⟨[102,110]⟩⟩)]),mM 33 35] (cO 33 (.dreg ⟨[(fA 36 2 3,[]),(lD 37 36,[0]),(mM 38 0,[]),(cC 39 45 [tT 38,bC false],[2]),(oO 40 (.mkrow 38 7 [tT 39]),[2,3])],[oO 41 (.app 38 7 120 (tT 37) (tT 40)),fA 42 2 3,sT 1 42 41],[0,2]⟩) (sR [mM 44 0,oO 45 (.call (.func 39) [tT 44,iC 1,.const (.string ⟨⟨[111,110]⟩⟩)]),mM 43 45] (cO 43 (.dreg ⟨[(fA 46 2 3,[]),(lD 47 46,[0]),(mM 48 0,[]),(cC 49 45 [tT 48,bC true],[2]),(oO 50 (.mkrow 38 7 [tT 49]),[2,3])],[oO 51 (.app 38 7 120 (tT 47) (tT 50)),fA 52 2 3,sT 1 52 51],[0,2]⟩) (.reg [mM 19 0,cC 20 40 [tT 19,iC 31]])))))))))))) (sR [lA 53 3 3,sT 3 2 53] .ret)))))
theorem h40:FnIs prog eu0 54 dW0 [(.lda 3 (.tmp 2))]:=.of (fn:=Tryz.f19) Tryz.func19 (by kernel_rfl)
def jW0:Cd:=sR [mM 2 5] (sR [mM 6 2,oO 7 (.isni true (tT 6))] (cO 7 (.seq (sR [mM 9 2,oO 10 (.ta 61 (.agg ⟨[]⟩) (tT 9)),mM 8 10,eX 11 8 0,eX 12 8 1,oO 3 (.alloc []),sT 0 3 11,mM 4 12] (sR [mM 13 4,oO 14 (.un .not (tT 13))] (cO 14 (.reg [mM 15 2,nO (.pan (tT 15))]) .skip))) (.reg [nO (.st 1 (tT 0) (.const (.string ⟨⟨[]⟩⟩))),nO (.st 1 (tT 1) (iC 11))])) .skip))
theorem nw0:FnR prog kE0 16 5 jW0 []:=.of (fn:=Tryz.f20) Tryz.func20 (by kernel_rfl)
def iz0:Cd:=sR [mM 2 0,oO 3 (.un .not (tT 2))] (cO 3 (.reg [oO 4 (.build [] []),oO 5 (.mkif 61 (tT 4)),nO (.pan (tT 5))]) .skip)
theorem pw0:FnIs prog hY0 6 iz0 []:=.of (fn:=Tryz.f21) Tryz.func21 (by kernel_rfl)
def cA0:Cd:=sR [mM 6 1,lN 7 6,mC 8 0] (.blk 0 (.loop (sR [bB 9 .lss 8 7] (.seq (cO 9 .skip (.exit 0)) (.seq (.blk 1 (sR [iA 10 1 6 8,lD 11 10,mM 5 11] (.reg [mM 12 0,nC 13 12,fA 14 0 13,mM 15 5,cC 16 46 [tT 14,tT 15]]))) (.reg [bI 17 .add 8 1,mM 8 17]))))))
theorem dD0:FnIs prog cV0 18 cA0 []:=.of (fn:=Tryz.f22) Tryz.func22 (by kernel_rfl)
def iA0:Cd:=sR [oO 2 (.mv (.const (.string ⟨⟨[]⟩⟩)))] (sR [mM 3 0,cC 4 47 [tT 3],mM 2 4] .ret)
theorem mI0:FnIs prog jY0 5 iA0 [(.mv (.tmp 2))]:=.of (fn:=Tryz.f23) Tryz.func23 (by kernel_rfl)
def lH0:Cd:=sR [bX 1 3 0,oO 2 (.mv (.const (.string ⟨⟨[]⟩⟩)))] (sR [fA 3 1 1,lD 4 3,cC 5 14 [tT 4],cC 6 21 [tT 5]] (.seq (.dreg ⟨[(fA 7 0 1,[]),(lD 8 7,[0]),(cC 9 25 [tT 8],[0,1]),(oO 10 (.bin .add (tT 9) (.const (.string ⟨⟨[58,32]⟩⟩))),[0,1,2]),(fA 11 1 1,[]),(lD 12 11,[4])],[bB 13 .add 10 12,mM 2 13],[0,4]⟩) .ret))
theorem py0:FnIs prog mE0 14 lH0 [(.mv (.tmp 2))]:=.of (fn:=Tryz.f24) Tryz.func24 (by kernel_rfl)
def lG0:Cd:=sR [oO 2 (.mv (.const (.string ⟨⟨[]⟩⟩)))] (sR [mM 3 0,cC 4 48 [tT 3],mM 5 4,xM 6 5 true 0,gO 7 5 true (.call (.func 49) [tT 6]),gO 8 5 true (.un .not (tT 7)),pF 9 5 8,cC 10 21 [tT 9]] (sR [mM 11 0,mM 2 11] .ret))
theorem px0:FnIs prog eB0 12 lG0 [(.mv (.tmp 2))]:=.of (fn:=Tryz.f25) Tryz.func25 (by kernel_rfl)
def iB0:Cd:=sR [oO 4 (.mv (.const (.string ⟨⟨[]⟩⟩)))] (.seq (sR [mM 11 0,lN 12 11] (.blk 0 (sR [bI 14 .eql 12 0,mM 13 14] (cO 13 (sR [oO 4 (.mv (.const (.string ⟨⟨[]⟩⟩)))] .ret) (sR [bI 16 .eql 12 1,mM 15 16] (cO 15 (sR [mM 17 0,oO 18 (.ia 1 (tT 17) (iC 0)),lD 19 18,mM 4 19] .ret) .skip)))))) (sR [mC 5 0] (.seq (sR [mM 20 1,lS 21 20,bI 22 .gtr 21 0] (cO 22 (.seq (sR [mM 23 1,lS 24 23,mM 25 0,lN 26 25,bI 27 .sub 26 1,oO 28 (.bin .quo (iC 9223372036854775807) (tT 27)),bB 29 .geq 24 28] (cO 29 (.reg [oO 30 (.mkif 9 (.const (.string ⟨⟨[115,116,114,105,110,103,115,58,32,74,111,105,110,32,111,117,116,112,117,116,32,108,101,110,103,116,104,32,111,118,101,114,102,108,111,119]⟩⟩))),nO (.pan (tT 30))]) .skip)) (.reg [mM 31 5,mM 32 1,lS 33 32,mM 34 0,lN 35 34,bI 36 .sub 35 1,bB 37 .mul 33 36,bB 38 .add 31 37,mM 5 38])) .skip)) (.seq (sR [mM 39 0,lN 40 39,mC 41 0] (.blk 1 (.loop (sR [bB 42 .lss 41 40] (.seq (cO 42 .skip (.exit 1)) (.seq (.blk 2 (sR [iA 43 1 39 41,lD 44 43,mM 7 44] (.seq (sR [mM 45 7,lS 46 45,mM 47 5,oO 48 (.bin .sub (iC 9223372036854775807) (tT 47)),bB 49 .gtr 46 48] (cO 49 (.reg [oO 50 (.mkif 9 (.const (.string ⟨⟨[115,116,114,105,110,103,115,58,32,74,111,105,110,32,111,117,116,112,117,116,32,108,101,110,103,116,104,32,111,118,101,114,102,108,111,119]⟩⟩))),nO (.pan (tT 50))]) .skip)) (.reg [mM 51 5,mM 52 7,lS 53 52,bB 54 .add 51 53,mM 5 54])))) (.reg [bI 55 .add 41 1,mM 41 55]))))))) (sR [oO 8 (.allocS 67 [.nil])] (sR [mM 56 5,cC 57 50 [tT 8,tT 56]] (sR [mM 58 0,oO 59 (.ia 1 (tT 58) (iC 0)),lD 60 59,cC 61 46 [tT 8,tT 60]] (.seq (sR [mM 62 0,oO 63 (.slL 1 (tT 62) (some (iC 1)) none),lN 64 63,mC 65 0] (.blk 3 (.loop (sR [bB 66 .lss 65 64] (.seq (cO 66 .skip (.exit 3)) (.seq (.blk 4 (sR [iA 67 1 63 65,lD 68 67,mM 10 68] (sR [mM 69 1,cC 70 46 [tT 8,tT 69]] (.reg [mM 71 10,cC 72 46 [tT 8,tT 71]])))) (.reg [bI 73 .add 65 1,mM 65 73]))))))) (sR [cC 74 29 [tT 8],mM 4 74] .ret)))))))))
theorem mJ0:FnIs prog dw0 75 iB0 [(.mv (.tmp 4))]:=.of (fn:=Tryz.f26) Tryz.func26 (by kernel_rfl)
def c20:Cd:=.seq (sR [mM 8 1,lN 9 8,bI 10 .eql 9 0] (cO 10 (sR [mM 11 0,oO 12 (.mkrow 9 1 [.const (.string ⟨⟨[123,125]⟩⟩)]),cC 13 22 [tT 11,tT 12]] .ret) .skip)) (sR [mM 14 0,oO 15 (.mkrow 9 1 [.const (.string ⟨⟨[123,10]⟩⟩)]),cC 16 22 [tT 14,tT 15]] (.seq (sR [mM 17 1,lN 18 17,mC 19 0] (.blk 0 (.loop (sR [bB 20 .lss 19 18] (.seq (cO 20 .skip (.exit 0)) (.seq (.blk 1 (sR [iA 21 9 17 19,lA 22 9 21,oO 7 (.alloc [zI,zS,zI,.c (.bool false),zI,.nil,.nil,.nil,zI]),sT 9 7 22] (sR [mM 23 0,mM 24 2,oO 25 (.mkrow 9 1 [tT 24,.const (.string ⟨⟨[9]⟩⟩)]),cC 26 22 [tT 23,tT 25]] (sR [mM 27 0,lA 28 9 7,mM 29 2,oO 30 (.bin .add (tT 29) (.const (.string ⟨⟨[9]⟩⟩))),cC 31 51 [tT 27,tT 28,tT 30]] (.reg [mM 32 0,oO 33 (.mkrow 9 1 [.const (.string ⟨⟨[10]⟩⟩)]),cC 34 22 [tT 32,tT 33]]))))) (.reg [bI 35 .add 19 1,mM 19 35]))))))) (.reg [mM 36 0,mM 37 2,oO 38 (.mkrow 9 1 [tT 37,.const (.string ⟨⟨[125]⟩⟩)]),cC 39 22 [tT 36,tT 38]])))
theorem eW0:FnIs prog fx0 40 c20 []:=.of (fn:=Tryz.f27) Tryz.func27 (by kernel_rfl)
def cR0:Cd:=sR [mC 2 0] (sR [mM 3 0,nC 4 3,fA 5 1 4,lD 6 5,lN 7 6,mM 2 7] .ret)
theorem ey0:FnIs prog c30 8 cR0 [(.mv (.tmp 2))]:=.of (fn:=Tryz.f28) Tryz.func28 (by kernel_rfl)
def bo0:Cd:=sR [mB 4 false] (.seq (sR [mM 11 0] (.blk 0 (.seq (sR [oO 13 (.bin .eql (tT 11) (.const (.string ⟨⟨[105,110,116]⟩⟩))),mM 12 13] (cO 12 .skip (sR [oO 14 (.bin .eql (tT 11) (.const (.string ⟨⟨[98,111,111,108]⟩⟩))),mM 12 14] (cO 12 .skip (.reg [oO 15 (.bin .eql (tT 11) (.const (.string ⟨⟨[116,101,120,116]⟩⟩))),mM 12 15]))))) (cO 12 (sR [mM 16 1,bI 17 .leq 16 4,mM 4 17] .ret) .skip)))) (.seq (sR [mM 18 0,lS 19 18,bI 20 .lss 19 2,mM 21 20,xM 22 21 false 1,xI 23 21 false .geq 22 4,pT 24 21 23] (cO 24 (sR [mB 4 false] .ret) .skip)) (.seq (sR [mM 26 0,mM 27 0,lS 28 27,bI 29 .sub 28 1,oO 30 (.slS (tT 26) none (some (tT 29))),oO 31 (.call (.func 55) [tT 30,.const (.string ⟨⟨[91]⟩⟩)]),mM 25 31,eX 32 25 0,eX 33 25 1,mM 5 32,mM 6 33] (sR [mM 34 6] (cO 34 (sR [mM 35 0,mM 36 0,lS 37 36,bI 38 .sub 37 1,oO 39 (.ixS (tT 35) (tT 38)),oO 40 (.bin .eql (tT 39) (.const (.int .u8 93))),mM 41 40,xM 42 41 true 5,xM 43 41 true 1,xI 44 41 true .add 43 1,gO 45 41 true (.call (.func 31) [tT 42,tT 44]),pF 46 41 45,mM 4 46] .ret) .skip))) (.seq (sR [oO 47 (.mkrow 9 1 [.const (.string ⟨⟨[123,105,110,116,58]⟩⟩),.const (.string ⟨⟨[123,116,101,120,116,58]⟩⟩)]),lN 48 47,mC 49 0] (.blk 1 (.loop (sR [bB 50 .lss 49 48] (.seq (cO 50 .skip (.exit 1)) (.seq (.blk 2 (sR [iA 51 1 47 49,lD 52 51,mM 8 52] (sR [mM 54 0,mM 55 0,lS 56 55,bI 57 .sub 56 1,oO 58 (.slS (tT 54) none (some (tT 57))),mM 59 8,cC 60 55 [tT 58,tT 59],mM 53 60,eX 61 53 0,eX 62 53 1,mM 9 61,mM 10 62] (sR [mM 63 10] (cO 63 (sR [mM 64 0,mM 65 0,lS 66 65,bI 67 .sub 66 1,oO 68 (.ixS (tT 64) (tT 67)),oO 69 (.bin .eql (tT 68) (.const (.int .u8 125))),mM 70 69,xM 71 70 true 9,xM 72 70 true 1,xI 73 70 true .add 72 1,gO 74 70 true (.call (.func 31) [tT 71,tT 73]),pF 75 70 74,mM 4 75] .ret) .skip))))) (.reg [bI 76 .add 49 1,mM 49 76]))))))) (sR [mB 4 false] .ret)))))
theorem lQ0:FnIs prog mD0 77 bo0 [(.mv (.tmp 4))]:=.of (fn:=Tryz.f31) Tryz.func31 (by kernel_rfl)
def iw0:Cd:=.blk 0 (sR [oO 8 (.isni false (tT 6))] (cO 8 (.reg [mM 3 6]) (sR [oO 9 (.ta 88 (.agg ⟨[.int .i64 0,.int .i64 0]⟩) (tT 6)),eX 10 9 1,eX 11 9 0] (cO 10 (sR [oO 4 (.alloc [zI,zI]),sT 2 4 11] (.dreg ⟨[(fA 12 0 4,[]),(lD 13 12,[0]),(fA 14 1 4,[]),(lD 15 14,[2]),(nO (.st 1 (tT 0) (.const (.slice none 0 0))),[]),(sT 1 1 13,[0,1,4])],[sT 1 2 15],[0,2]⟩)) (sR [mM 5 6] (.reg [mM 7 5,nO (.pan (tT 7))]))))))
theorem lP0:FnR prog kc0 16 6 iw0 []:=.of (fn:=Tryz.f35) Tryz.func35 (by kernel_rfl)
def dU0:Cd:=.blk 0 (.loop (.blk 1 (sR [mM 3 0,mM 4 0,oO 5 (.call (.func 57) [tT 4,.const (.string ⟨⟨[32,10,9]⟩⟩)]),nC 6 3,fA 7 1 6,sT 1 7 5] (.seq (.seq (.dreg ⟨[(mM 8 0,[]),(nC 9 8,[0]),(fA 10 1 9,[0,1]),(lD 11 10,[0,1,2]),(mM 12 0,[]),(nC 13 12,[4]),(fA 14 0 13,[4,5]),(lD 15 14,[4,5,6]),(lS 16 15,[4,5,6,7]),(bB 17 .geq 11 16,[0,1,2,3,4,5,6,7,8]),(mM 18 17,[0,1,2,3,4,5,6,7,8,9]),(xM 19 18 false 0,[0,1,2,3,4,5,6,7,8,9,10]),(gO 20 18 false (.nchk (tT 19)),[0,1,2,3,4,5,6,7,8,9,10,11]),(xF 21 18 false 0 20,[0,1,2,3,4,5,6,7,8,9,10,11,12]),(xD 22 18 false 21,[0,1,2,3,4,5,6,7,8,9,10,11,12,13]),(xM 23 18 false 0,[0,1,2,3,4,5,6,7,8,9,10]),(gO 24 18 false (.nchk (tT 23)),[0,1,2,3,4,5,6,7,8,9,10,15]),(xF 25 18 false 1 24,[0,1,2,3,4,5,6,7,8,9,10,15,16]),(xD 26 18 false 25,[0,1,2,3,4,5,6,7,8,9,10,15,16,17])],[gO 27 18 false (.ixS (tT 22) (tT 26)),gO 28 18 false (.bin .neq (tT 27) (.const (.int .u8 35))),pT 29 18 28],[0,1,2,4,5,6,10]⟩) (cO 29 .ret .skip)) (.seq (.dreg ⟨[(mM 30 0,[]),(nC 31 30,[0]),(fA 32 0 31,[0,1]),(lD 33 32,[0,1,2]),(mM 34 0,[]),(nC 35 34,[4]),(fA 36 1 35,[4,5]),(lD 37 36,[4,5,6])],[oO 38 (.slS (tT 33) (some (tT 37)) none),cC 39 58 [tT 38,.const (.int .u8 10)],mM 2 39],[0,1,2,4,5,6]⟩) (sR [mM 40 2,bI 41 .geq 40 0] (cO 41 (.reg [mM 42 0,nC 43 42,fA 44 1 43,lD 45 44,mM 46 2,bB 47 .add 45 46,nC 48 42,fA 49 1 48,sT 1 49 47]) (.reg [mM 50 0,mM 51 0,nC 52 51,fA 53 0 52,lD 54 53,lS 55 54,nC 56 50,fA 57 1 56,sT 1 57 55]))))))))
theorem gN0:FnIs prog eA0 58 dU0 []:=.of (fn:=Tryz.f36) Tryz.func36 (by kernel_rfl)
def ig0:Cd:=.seq (.dreg ⟨[(mM 6 0,[]),(nC 7 6,[0]),(fA 8 0 7,[0,1]),(lD 9 8,[0,1,2]),(mM 10 0,[]),(nC 11 10,[4]),(fA 12 1 11,[4,5]),(lD 13 12,[4,5,6])],[oO 14 (.ixS (tT 9) (tT 13)),mM 2 14],[0,1,2,4,5,6]⟩) (.seq (.blk 0 (sR [mM 16 2,oO 17 (.call (.func 58) [.const (.string ⟨⟨[97,98,99,100,101,102,103,104,105,106,107,108,109,110,111,112,113,114,115,116,117,118,119,120,121,122,95]⟩⟩),tT 16]),bI 18 .geq 17 0,mM 15 18] (cO 15 (sR [mM 19 0,oO 20 (.call (.func 57) [tT 19,.const (.string ⟨⟨[97,98,99,100,101,102,103,104,105,106,107,108,109,110,111,112,113,114,115,116,117,118,119,120,121,122,95,48,49,50,51,52,53,54,55,56,57]⟩⟩)]),mM 3 20] (.seq (sR [mM 21 3,mM 22 0,nC 23 22,fA 24 1 23,lD 25 24,bB 26 .sub 21 25,bI 27 .gtr 26 16] (cO 27 (.reg [mM 28 0,mM 29 0,nC 30 29,fA 31 1 30,lD 32 31,cC 33 59 [tT 28,tT 32,iC 3]]) .skip)) (.seq (.dreg ⟨[(mM 34 0,[]),(mM 35 0,[]),(nC 36 35,[1]),(fA 37 0 36,[1,2]),(lD 38 37,[1,2,3]),(mM 39 0,[]),(nC 40 39,[5]),(fA 41 1 40,[5,6]),(lD 42 41,[5,6,7]),(mM 43 3,[]),(oO 44 (.slS (tT 38) (some (tT 42)) (some (tT 43))),[1,2,3,4,5,6,7,8,9]),(oO 45 (.build [zI,zS,zI,zI] [(0,1,iC 1),(1,1,tT 44)]),[1,2,3,4,5,6,7,8,9,10]),(mM 46 3,[])],[cC 47 38 [tT 34,tT 45,tT 46]],[0,1,2,3,5,6,7,9,12]⟩) .ret))) (sR [mM 49 2,oO 50 (.call (.func 58) [.const (.string ⟨⟨[48,49,50,51,52,53,54,55,56,57]⟩⟩),tT 49]),bI 51 .geq 50 0,mM 48 51] (cO 48 (sR [mM 52 0,cC 53 60 [tT 52]] .ret) (sR [mM 55 2,oO 56 (.bin .eql (tT 55) (.const (.int .u8 34))),mM 54 56] (cO 54 (sR [mM 57 0,cC 58 61 [tT 57]] .ret) .skip))))))) (.seq (sR [cC 59 62 [],lN 60 59,mC 61 0] (.blk 1 (.loop (sR [bB 62 .lss 61 60] (.seq (cO 62 .skip (.exit 1)) (.seq (.blk 2 (sR [iA 63 1 59 61,lD 64 63,mM 5 64] (.seq (.dreg ⟨[(mM 65 0,[]),(nC 66 65,[0]),(fA 67 0 66,[0,1]),(lD 68 67,[0,1,2]),(mM 69 0,[]),(nC 70 69,[4]),(fA 71 1 70,[4,5]),(lD 72 71,[4,5,6]),(oO 73 (.slS (tT 68) (some (tT 72)) none),[0,1,2,3,4,5,6,7]),(mM 74 5,[])],[cC 75 63 [tT 73,tT 74]],[0,1,2,4,5,6,9]⟩) (cO 75 (sR [mM 76 0,mM 77 5,oO 78 (.build [zI,zS,zI,zI] [(0,1,iC 4),(1,1,tT 77)]),mM 79 0,nC 80 79,fA 81 1 80,lD 82 81,bI 83 .add 82 2,cC 84 38 [tT 76,tT 78,tT 83]] .ret) .skip)))) (.reg [bI 85 .add 61 1,mM 61 85]))))))) (.seq (sR [mM 86 2,oO 87 (.call (.func 58) [.const (.string ⟨⟨[40,41,123,125,91,93,58,59,44,61,60,62,43,45,42,47,37,33,46]⟩⟩),tT 86]),bI 88 .lss 87 0] (cO 88 (.reg [mM 89 0,mM 90 0,nC 91 90,fA 92 1 91,lD 93 92,cC 94 59 [tT 89,tT 93,iC 30]]) .skip)) (.reg [mM 95 0,mM 96 2,oO 97 (.cvIS (tT 96)),oO 98 (.build [zI,zS,zI,zI] [(0,1,iC 4),(1,1,tT 97)]),mM 99 0,nC 100 99,fA 101 1 100,lD 102 101,bI 103 .add 102 1,cC 104 38 [tT 95,tT 98,tT 103]]))))
theorem l00:FnIs prog iE0 105 ig0 []:=.of (fn:=Tryz.f37) Tryz.func37 (by kernel_rfl)
def fb0:Cd:=sR [bX 4 4 1] (.seq (sR [mM 6 0,nC 7 6,fA 8 2 7,lD 9 8,lN 10 9,bI 11 .geq 10 4096] (cO 11 (.reg [mM 12 0,mM 13 0,nC 14 13,fA 15 1 14,lD 16 15,cC 17 59 [tT 12,tT 16,iC 36]]) .skip)) (sR [mM 18 0,nC 19 18,fA 20 1 19,lD 21 20,fA 22 3 4,sT 1 22 21] (.seq (.dreg ⟨[(mM 23 0,[]),(mM 24 0,[]),(nC 25 24,[1]),(fA 26 2 25,[1,2]),(lD 27 26,[1,2,3]),(lA 28 4 4,[]),(oO 29 (.mkrow 94 4 [tT 28]),[5]),(oO 30 (.app 94 4 40 (tT 27) (tT 29)),[1,2,3,4,5,6])],[nC 31 23,fA 32 2 31,sT 1 32 30],[0,1,2,3]⟩) (.reg [mM 33 0,mM 34 2,nC 35 33,fA 36 1 35,sT 1 36 34]))))
theorem ik0:FnIs prog fY0 37 fb0 []:=.of (fn:=Tryz.f38) Tryz.func38 (by kernel_rfl)
def fs0:Cd:=sR [mB 6 false] (.seq (sR [mM 7 0,mM 8 1,mM 9 2,cC 10 64 [tT 7,tT 8,tT 9]] (cO 10 (sR [mM 11 0,nC 12 11,fA 13 1 12,lD 14 13,bI 15 .add 14 1,nC 16 11,fA 17 1 16,sT 1 17 15] (sR [mB 6 true] .ret)) .skip)) (sR [mB 6 false] .ret))
theorem jI0:FnIs prog gg0 18 fs0 [(.mv (.tmp 6))]:=.of (fn:=Tryz.f39) Tryz.func39 (by kernel_rfl)
def fm0:Cd:=.reg [mM 4 0,cC 5 43 [tT 4],oO 6 (.fld 3 (tT 5)),mM 7 1,oO 8 (.build [zI,zI] [(0,1,tT 6),(1,1,tT 7)]),oO 9 (.mkif 55 (tT 8)),nO (.pan (tT 9))]
theorem jD0:FnIs prog gb0 10 fm0 []:=.of (fn:=Tryz.f40) Tryz.func40 (by kernel_rfl)
def fp0:Cd:=sR [oO 4 (.alloc [zI,zS,zI,zI])] (sR [mM 6 0,cC 7 43 [tT 6],oO 5 (.alloc [zI,zS,zI,zI]),sT 4 5 7] (.seq (sR [fA 8 0 5,lD 9 8,mM 10 1,bB 11 .neq 9 10,mM 12 11,xM 13 12 false 1,xI 14 12 false .eql 13 1,xM 15 12 false 14,xF 16 15 true 1 5,xD 17 15 true 16,gO 18 15 true (.call (.func 49) [tT 17]),gO 19 12 false (.pick (tT 15) (tT 18) (bC false)),pT 20 12 19] (cO 20 (.reg [mM 21 0,cC 22 40 [tT 21,iC 31]]) .skip)) (sR [mM 23 0,nC 24 23,fA 25 1 24,lD 26 25,bI 27 .add 26 1,nC 28 23,fA 29 1 28,sT 1 29 27] (sR [lA 30 4 5,sT 4 4 30] .ret))))
theorem jG0:FnIs prog cB0 31 fp0 [(.lda 4 (.tmp 4))]:=.of (fn:=Tryz.f41) Tryz.func41 (by kernel_rfl)
def fo0:Cd:=sR [mM 4 0,mM 5 1,cC 6 39 [tT 4,iC 4,tT 5],oO 7 (.un .not (tT 6))] (cO 7 (.reg [mM 8 0,cC 9 40 [tT 8,iC 31]]) .skip)
theorem jF0:FnIs prog ge0 10 fo0 []:=.of (fn:=Tryz.f42) Tryz.func42 (by kernel_rfl)
def fn0:Cd:=sR [oO 2 (.alloc [zI,zS,zI,zI])] (.seq (.dreg ⟨[(mM 3 0,[]),(nC 4 3,[0]),(fA 5 0 4,[0,1]),(lD 6 5,[0,1,2]),(mM 7 0,[]),(nC 8 7,[4]),(fA 9 1 8,[4,5]),(lD 10 9,[4,5,6])],[iA 11 4 6 10,lA 12 4 11,sT 4 2 12],[0,1,2,4,5,6]⟩) .ret)
theorem jE0:FnIs prog gc0 13 fn0 [(.lda 4 (.tmp 2))]:=.of (fn:=Tryz.f43) Tryz.func43 (by kernel_rfl)
def fq0:Cd:=sR [oO 2 (.alloc [zS,zS,zI])] (sR [mM 4 0,cC 5 41 [tT 4,iC 1],oO 3 (.alloc [zI,zS,zI,zI]),sT 4 3 5] (sR [mM 6 0,oO 7 (.call (.func 42) [tT 6,.const (.string ⟨⟨[58]⟩⟩)])] (.seq (.dreg ⟨[(fA 8 1 3,[]),(lD 9 8,[0]),(mM 10 0,[]),(cC 11 65 [tT 10,iC 1],[2]),(fA 12 3 3,[]),(lD 13 12,[4])],[oO 14 (.build [zS,zS,zI] [(0,1,tT 9),(1,1,tT 11),(2,1,tT 13)]),sT 3 2 14],[0,2,4]⟩) .ret)))
theorem jH0:FnIs prog gf0 15 fq0 [(.lda 3 (.tmp 2))]:=.of (fn:=Tryz.f44) Tryz.func44 (by kernel_rfl)
def dI0:Cd:=sR [bX 2 1 0,oO 4 (.alloc [zS,.c (.bool false),.nil,zS,.nil,.nil,zI])] (sR [lD 7 2,cC 8 41 [tT 7,iC 1],oO 5 (.alloc [zI,zS,zI,zI]),sT 4 5 8] (sR [fA 9 1 5,lD 10 9,mM 11 1,fA 12 3 5,lD 13 12,oO 14 (.build [zS,.c (.bool false),.nil,zS,.nil,.nil,zI] [(0,1,tT 10),(1,1,tT 11),(6,1,tT 13)]),oO 6 (.alloc [zS,.c (.bool false),.nil,zS,.nil,.nil,zI]),sT 7 6 14] (sR [lD 15 2,oO 16 (.call (.func 42) [tT 15,.const (.string ⟨⟨[40]⟩⟩)])] (sR [lD 17 2,oO 18 (.mkfn 67 [tT 6,tT 2]),oO 19 (.call (.func 66) [tT 17,.const (.string ⟨⟨[41]⟩⟩),tT 18])] (sR [lD 20 2,oO 21 (.call (.func 42) [tT 20,.const (.string ⟨⟨[58]⟩⟩)])] (sR [lD 22 2,cC 23 65 [tT 22,iC 1],fA 24 3 6,sT 1 24 23] (sR [lD 25 2,cC 26 68 [tT 25,iC 1],fA 27 5 6,sT 1 27 26] (sR [lA 28 7 6,sT 7 4 28] .ret))))))))
theorem hD0:FnIs prog ea0 29 dI0 [(.lda 7 (.tmp 4))]:=.of (fn:=Tryz.f45) Tryz.func45 (by kernel_rfl)
def cy0:Cd:=sR [mC 4 0,oO 5 (.mv (.const .nilIface))] (sR [mM 6 0,cC 7 69 [tT 6]] (sR [mM 8 0,mM 9 0,nC 10 9,fA 11 1 10,lD 12 11,mM 13 1,oO 14 (.appS 5 (tT 12) (tT 13)),nC 15 8,fA 16 1 15,sT 1 16 14] (sR [mM 17 1,lS 18 17,mM 4 18,oO 5 (.mv (.const .nilIface))] .ret)))
theorem eY0:FnIs prog cK0 19 cy0 [(.mv (.tmp 4)),(.mv (.tmp 5))]:=.of (fn:=Tryz.f46) Tryz.func46 (by kernel_rfl)
def dH0:Cd:=sR [oO 2 (.mv (.const (.string ⟨⟨[]⟩⟩)))] (sR [mM 3 0,cC 4 70 [tT 3,iC 10],mM 2 4] .ret)
theorem hC0:FnIs prog d00 5 dH0 [(.mv (.tmp 2))]:=.of (fn:=Tryz.f47) Tryz.func47 (by kernel_rfl)
def hQ0:Cd:=sR [mB 2 false] (sR [mM 3 0,oO 4 (.bin .neq (tT 3) (.const (.string ⟨⟨[]⟩⟩))),mM 5 4,xM 6 5 true 0,gO 7 5 true (.lenS (tT 6)),xI 8 5 true .leq 7 16,pF 9 5 8,mM 10 9,xM 11 10 true 0,gO 12 10 true (.ixS (tT 11) (iC 0)),gO 13 10 true (.call (.func 58) [.const (.string ⟨⟨[48,49,50,51,52,53,54,55,56,57]⟩⟩),tT 12]),xI 14 10 true .lss 13 0,pF 15 10 14,mM 16 15,xM 17 16 true 0,gO 18 16 true (.call (.func 71) [tT 17,.const (.string ⟨⟨[97,98,99,100,101,102,103,104,105,106,107,108,109,110,111,112,113,114,115,116,117,118,119,120,121,122,95,48,49,50,51,52,53,54,55,56,57]⟩⟩)]),gO 19 16 true (.bin .eql (tT 18) (.const (.string ⟨⟨[]⟩⟩))),pF 20 16 19,mM 2 20] .ret)
theorem qA0:FnIs prog nM0 21 hQ0 [(.mv (.tmp 2))]:=.of (fn:=Tryz.f48) Tryz.func48 (by kernel_rfl)
def hr0:Cd:=sR [mB 2 false] (sR [oO 3 (.mkrow 9 1 [.const (.string ⟨⟨[118,101,114,115,105,111,110]⟩⟩),.const (.string ⟨⟨[115,116,97,116,101]⟩⟩),.const (.string ⟨⟨[102,110]⟩⟩),.const (.string ⟨⟨[111,110]⟩⟩),.const (.string ⟨⟨[108,101,116]⟩⟩),.const (.string ⟨⟨[115,101,116]⟩⟩),.const (.string ⟨⟨[100,101,108]⟩⟩),.const (.string ⟨⟨[105,102]⟩⟩),.const (.string ⟨⟨[101,108,115,101]⟩⟩),.const (.string ⟨⟨[102,111,114]⟩⟩),.const (.string ⟨⟨[116,111]⟩⟩),.const (.string ⟨⟨[114,101,116]⟩⟩),.const (.string ⟨⟨[116,114,117,101]⟩⟩),.const (.string ⟨⟨[102,97,108,115,101]⟩⟩),.const (.string ⟨⟨[105,110,116]⟩⟩),.const (.string ⟨⟨[98,111,111,108]⟩⟩),.const (.string ⟨⟨[116,101,120,116]⟩⟩)]),mM 4 0,cC 5 72 [tT 3,tT 4],mM 2 5] .ret)
theorem lj0:FnIs prog ij0 6 hr0 [(.mv (.tmp 2))]:=.of (fn:=Tryz.f49) Tryz.func49 (by kernel_rfl)
def aA0:Cd:=sR [bX 4 9 1] (sR [mC 6 0] (.seq (sR [fA 7 0 4,lD 8 7,bI 9 .eql 8 2,mM 10 9,xF 11 10 true 5 4,xD 12 10 true 11,xL 13 10 true 12,xI 14 10 true .eql 13 2,pF 15 10 14] (cO 15 (.reg [mC 6 1]) .skip)) (sR [fA 16 5 4,lD 17 16,lN 18 17,mM 19 6,oO 20 (.bin .add (iC 1) (tT 19)),bB 21 .eql 18 20,cC 22 21 [tT 21]] (.seq (sR [fA 23 0 4,lD 24 23] (.blk 0 (sR [bI 27 .eql 24 1,mM 26 27] (cO 26 (.reg [mM 28 0,fA 29 1 4,lD 30 29,cC 31 25 [tT 30],oO 32 (.mkrow 9 1 [.const (.string ⟨⟨[108,101,116,32]⟩⟩),tT 31,.const (.string ⟨⟨[32,61,32]⟩⟩)]),cC 33 22 [tT 28,tT 32]]) (sR [bI 35 .eql 24 2,mM 34 35] (cO 34 (sR [mM 36 0,fA 37 1 4,lD 38 37,cC 39 25 [tT 38],oO 40 (.mkrow 9 1 [.const (.string ⟨⟨[115,101,116,32]⟩⟩),tT 39]),cC 41 22 [tT 36,tT 40]] (.seq (sR [mM 42 6,bI 43 .gtr 42 0] (cO 43 (sR [mM 44 0,oO 45 (.mkrow 9 1 [.const (.string ⟨⟨[91]⟩⟩)]),cC 46 22 [tT 44,tT 45]] (sR [mM 47 0,fA 48 5 4,lD 49 48,oO 50 (.ia 8 (tT 49) (iC 0)),lA 51 8 50,cC 52 74 [tT 47,tT 51]] (.reg [mM 53 0,oO 54 (.mkrow 9 1 [.const (.string ⟨⟨[93]⟩⟩)]),cC 55 22 [tT 53,tT 54]]))) .skip)) (.reg [mM 56 0,oO 57 (.mkrow 9 1 [.const (.string ⟨⟨[32,61,32]⟩⟩)]),cC 58 22 [tT 56,tT 57]]))) (sR [bI 60 .eql 24 3,mM 59 60] (cO 59 (.reg [mM 61 0,fA 62 1 4,lD 63 62,cC 64 25 [tT 63],oO 65 (.mkrow 9 1 [.const (.string ⟨⟨[100,101,108,32]⟩⟩),tT 64,.const (.string ⟨⟨[91]⟩⟩)]),cC 66 22 [tT 61,tT 65]]) (sR [bI 68 .eql 24 4,mM 67 68] (cO 67 (.reg [mM 69 0,oO 70 (.mkrow 9 1 [.const (.string ⟨⟨[105,102,32]⟩⟩)]),cC 71 22 [tT 69,tT 70]]) (sR [bI 73 .eql 24 5,mM 72 73] (cO 72 (.reg [mM 74 0,fA 75 1 4,lD 76 75,cC 77 25 [tT 76],oO 78 (.mkrow 9 1 [.const (.string ⟨⟨[102,111,114,32]⟩⟩),tT 77,.const (.string ⟨⟨[32,116,111,32]⟩⟩)]),cC 79 22 [tT 74,tT 78]]) (sR [bI 81 .eql 24 6,mM 80 81] (cO 80 (.reg [mM 82 0,oO 83 (.mkrow 9 1 [.const (.string ⟨⟨[114,101,116,32]⟩⟩)]),cC 84 22 [tT 82,tT 83]]) (.reg [cC 25 21 [bC false]]))))))))))))))) (sR [mM 85 0,fA 86 5 4,lD 87 86,mM 88 6,iA 89 8 87 88,lA 90 8 89,cC 91 74 [tT 85,tT 90]] (sR [fA 92 0 4,lD 93 92] (.blk 1 (sR [bI 98 .eql 93 3,mM 97 98] (cO 97 (.reg [mM 99 0,oO 100 (.mkrow 9 1 [.const (.string ⟨⟨[93,59]⟩⟩)]),cC 101 22 [tT 99,tT 100]]) (.seq (sR [bI 103 .eql 93 4,mM 102 103] (cO 102 .skip (.reg [bI 104 .eql 93 5,mM 102 104]))) (cO 102 (sR [mM 105 0,oO 106 (.mkrow 9 1 [.const (.string ⟨⟨[32]⟩⟩)]),cC 107 22 [tT 105,tT 106]] (sR [mM 108 0,fA 109 6 4,lD 110 109,mM 111 2,cC 112 27 [tT 108,tT 110,tT 111]] (sR [fA 113 0 4,lD 114 113,bI 115 .eql 114 4,mM 116 115,xF 117 116 true 7 4,xD 118 116 true 117,xL 119 116 true 118,xI 120 116 true .gtr 119 0,pF 121 116 120] (cO 121 (sR [mM 122 0,oO 123 (.mkrow 9 1 [.const (.string ⟨⟨[32,101,108,115,101,32]⟩⟩)]),cC 124 22 [tT 122,tT 123]] (.reg [mM 125 0,fA 126 7 4,lD 127 126,mM 128 2,cC 129 27 [tT 125,tT 127,tT 128]])) .skip)))) (.reg [mM 94 0,oO 95 (.mkrow 9 1 [.const (.string ⟨⟨[59]⟩⟩)]),cC 96 22 [tT 94,tT 95]]))))))))))))
theorem aD0:FnIs prog dK0 130 aA0 []:=.of (fn:=Tryz.f51) Tryz.func51 (by kernel_rfl)
def fu0:Cd:=sR [oO 4 (.mv (.const (.string ⟨⟨[]⟩⟩))),mB 5 false] (sR [mM 6 0,mM 7 1,cC 8 78 [tT 6,tT 7],eX 9 8 0,eX 10 8 1,mM 4 9,mM 5 10] .ret)
theorem jK0:FnIs prog gj0 11 fu0 [(.mv (.tmp 4)),(.mv (.tmp 5))]:=.of (fn:=Tryz.f55) Tryz.func55 (by kernel_rfl)
def fc0:Cd:=sR [mC 4 0] (sR [mM 6 0,nC 7 6,fA 8 1 7,lD 9 8,mM 5 9] (.seq (.blk 0 (.loop (.seq (sR [mM 10 5,mM 11 0,nC 12 11,fA 13 0 12,lD 14 13,lS 15 14,bB 16 .lss 10 15,mM 17 16,xM 18 17 true 1,xM 19 17 true 0,gO 20 17 true (.nchk (tT 19)),xF 21 17 true 0 20,xD 22 17 true 21,xM 23 17 true 5,gO 24 17 true (.ixS (tT 22) (tT 23)),gO 25 17 true (.call (.func 58) [tT 18,tT 24]),xI 26 17 true .geq 25 0,pF 27 17 26] (cO 27 .skip (.exit 0))) (.blk 1 (.reg [mM 28 5,bI 29 .add 28 1,mM 5 29]))))) (sR [mM 30 5,mM 4 30] .ret)))
theorem il0:FnIs prog fZ0 31 fc0 [(.mv (.tmp 4))]:=.of (fn:=Tryz.f57) Tryz.func57 (by kernel_rfl)
def fw0:Cd:=sR [mC 4 0] (sR [mM 5 0,mM 6 1,cC 7 79 [tT 5,tT 6],mM 4 7] .ret)
theorem jM0:FnIs prog gl0 8 fw0 [(.mv (.tmp 4))]:=.of (fn:=Tryz.f58) Tryz.func58 (by kernel_rfl)
def hh0:Cd:=.reg [mM 6 1,mM 7 2,oO 8 (.build [zI,zI] [(0,1,tT 6),(1,1,tT 7)]),oO 9 (.mkif 88 (tT 8)),nO (.pan (tT 9))]
theorem lh0:FnIs prog ih0 10 hh0 []:=.of (fn:=Tryz.f59) Tryz.func59 (by kernel_rfl)
def fS0:Cd:=sR [mM 8 0,oO 9 (.call (.func 57) [tT 8,.const (.string ⟨⟨[48,49,50,51,52,53,54,55,56,57]⟩⟩)]),mM 2 9] (.seq (.dreg ⟨[(mM 10 0,[]),(nC 11 10,[0]),(fA 12 0 11,[0,1]),(lD 13 12,[0,1,2]),(mM 14 0,[]),(nC 15 14,[4]),(fA 16 1 15,[4,5]),(lD 17 16,[4,5,6]),(mM 18 2,[])],[oO 19 (.slS (tT 13) (some (tT 17)) (some (tT 18))),mM 3 19],[0,1,2,4,5,6,8]⟩) (.seq (sR [mM 20 3,lS 21 20,bI 22 .gtr 21 1,mM 23 22,xM 24 23 true 3,gO 25 23 true (.ixS (tT 24) (iC 0)),gO 26 23 true (.bin .eql (tT 25) (.const (.int .u8 48))),pF 27 23 26] (cO 27 (.reg [mM 28 0,mM 29 0,nC 30 29,fA 31 1 30,lD 32 31,cC 33 59 [tT 28,tT 32,iC 30]]) .skip)) (sR [mC 4 0] (.seq (sR [mM 34 3,oO 35 (.cvSB (tT 34)),lN 36 35,mC 37 0] (.blk 0 (.loop (sR [bB 38 .lss 37 36] (.seq (cO 38 .skip (.exit 0)) (.seq (.blk 1 (sR [iA 39 1 35 37,lD 40 39,mM 6 40] (sR [mM 41 6,oO 42 (.bin .sub (tT 41) (.const (.int .u8 48))),oO 43 (.conv .i64 (tT 42)),mM 7 43] (.seq (sR [mM 44 4,mM 45 7,oO 46 (.bin .sub (iC 9223372036854775807) (tT 45)),bI 47 .quo 46 10,bB 48 .gtr 44 47] (cO 48 (.reg [mM 49 0,mM 50 0,nC 51 50,fA 52 1 51,lD 53 52,cC 54 59 [tT 49,tT 53,iC 3]]) .skip)) (.reg [mM 55 4,bI 56 .mul 55 10,mM 57 7,bB 58 .add 56 57,mM 4 58]))))) (.reg [bI 59 .add 37 1,mM 37 59]))))))) (.reg [mM 60 0,mM 61 3,mM 62 4,oO 63 (.build [zI,zS,zI,zI] [(0,1,iC 2),(1,1,tT 61),(2,1,tT 62)]),mM 64 2,cC 65 38 [tT 60,tT 63,tT 64]])))))
theorem kf0:FnIs prog gH0 66 fS0 []:=.of (fn:=Tryz.f60) Tryz.func60 (by kernel_rfl)
def hn0:Cd:=sR [oO 2 (.allocS 67 [.nil])] (.seq (sR [mM 5 0,nC 6 5,fA 7 1 6,lD 8 7,bI 9 .add 8 1,mM 3 9] (.blk 0 (.loop (.seq (sR [mM 10 3,mM 11 0,nC 12 11,fA 13 0 12,lD 14 13,lS 15 14,bB 16 .lss 10 15] (cO 16 .skip (.exit 0))) (.seq (.blk 1 (sR [mM 19 0,nC 20 19,fA 21 0 20,lD 22 21,mM 23 3,oO 24 (.ixS (tT 22) (tT 23)),mM 4 24] (.seq (.blk 2 (sR [mM 26 4,oO 27 (.bin .eql (tT 26) (.const (.int .u8 34))),mM 25 27] (cO 25 (.seq (sR [cC 28 28 [tT 2],bI 29 .gtr 28 256] (cO 29 (.reg [mM 30 0,mM 31 0,nC 32 31,fA 33 1 32,lD 34 33,cC 35 59 [tT 30,tT 34,iC 3]]) .skip)) (sR [mM 36 0,cC 37 29 [tT 2],oO 38 (.build [zI,zS,zI,zI] [(0,1,iC 3),(1,1,tT 37)]),mM 39 3,bI 40 .add 39 1,cC 41 38 [tT 36,tT 38,tT 40]] .ret)) (sR [mM 43 4,oO 44 (.bin .lss (tT 43) (.const (.int .u8 32))),mM 45 44,xM 46 45 false 4,gO 47 45 false (.bin .gtr (tT 46) (.const (.int .u8 126))),pT 48 45 47,mM 42 48] (cO 42 (.reg [mM 49 0,mM 50 3,cC 51 59 [tT 49,tT 50,iC 30]]) (sR [mM 53 4,oO 54 (.bin .eql (tT 53) (.const (.int .u8 92))),mM 52 54] (cO 52 (sR [mM 55 3,bI 56 .add 55 1,mM 3 56] (.seq (sR [mM 57 3,mM 58 0,nC 59 58,fA 60 0 59,lD 61 60,lS 62 61,bB 63 .geq 57 62,mM 64 63,xM 65 64 false 0,gO 66 64 false (.nchk (tT 65)),xF 67 64 false 0 66,xD 68 64 false 67,xM 69 64 false 3,gO 70 64 false (.ixS (tT 68) (tT 69)),gO 71 64 false (.bin .neq (tT 70) (.const (.int .u8 34))),xM 72 64 false 71,xM 73 72 true 0,gO 74 72 true (.nchk (tT 73)),xF 75 72 true 0 74,xD 76 72 true 75,xM 77 72 true 3,gO 78 72 true (.ixS (tT 76) (tT 77)),gO 79 72 true (.bin .neq (tT 78) (.const (.int .u8 92))),gO 80 64 false (.pick (tT 72) (tT 79) (bC false)),pT 81 64 80] (cO 81 (.reg [mM 82 0,mM 83 3,bI 84 .sub 83 1,cC 85 59 [tT 82,tT 84,iC 30]]) .skip)) (.reg [mM 86 0,nC 87 86,fA 88 0 87,lD 89 88,mM 90 3,oO 91 (.ixS (tT 89) (tT 90)),mM 4 91]))) .skip))))))) (.reg [mM 92 4,cC 93 80 [tT 2,tT 92]])))) (.reg [mM 17 3,bI 18 .add 17 1,mM 3 18])))))) (.reg [mM 94 0,mM 95 0,nC 96 95,fA 97 1 96,lD 98 97,cC 99 59 [tT 94,tT 98,iC 30]]))
theorem li0:FnIs prog ii0 100 hn0 []:=.of (fn:=Tryz.f61) Tryz.func61 (by kernel_rfl)
def jV0:Cd:=sR [oO 0 (.mv (.const (.slice none 0 0)))] (sR [oO 1 (.mkrow 9 1 [.const (.string ⟨⟨[61,61]⟩⟩),.const (.string ⟨⟨[33,61]⟩⟩),.const (.string ⟨⟨[60,61]⟩⟩),.const (.string ⟨⟨[62,61]⟩⟩),.const (.string ⟨⟨[38,38]⟩⟩),.const (.string ⟨⟨[124,124]⟩⟩)]),mM 0 1] .ret)
theorem nu0:FnIs prog kD0 2 jV0 [(.mv (.tmp 0))]:=.of (fn:=Tryz.f62) Tryz.func62 (by kernel_rfl)
def fv0:Cd:=sR [mB 4 false] (sR [mM 5 0,mM 6 1,cC 7 81 [tT 5,tT 6],mM 4 7] .ret)
theorem jL0:FnIs prog gk0 8 fv0 [(.mv (.tmp 4))]:=.of (fn:=Tryz.f63) Tryz.func63 (by kernel_rfl)
def gG0:Cd:=sR [mB 6 false] (sR [mM 8 0,cC 9 43 [tT 8],oO 7 (.alloc [zI,zS,zI,zI]),sT 4 7 9] (sR [fA 10 0 7,lD 11 10,mM 12 1,bB 13 .eql 11 12,mM 14 13,xF 15 14 true 1 7,xD 16 14 true 15,xM 17 14 true 2,gO 18 14 true (.bin .eql (tT 16) (tT 17)),pF 19 14 18,mM 6 19] .ret))
theorem kK0:FnIs prog hy0 20 gG0 [(.mv (.tmp 6))]:=.of (fn:=Tryz.f64) Tryz.func64 (by kernel_rfl)
def dp0:Cd:=sR [oO 4 (.mv (.const (.string ⟨⟨[]⟩⟩)))] (.seq (sR [mM 8 1,bI 9 .gtr 8 4] (cO 9 (.reg [mM 10 0,cC 11 40 [tT 10,iC 32]]) .skip)) (.seq (.blk 0 (sR [mM 13 0,oO 14 (.call (.func 39) [tT 13,iC 1,.const (.string ⟨⟨[98,111,111,108]⟩⟩)]),mM 12 14] (cO 12 (sR [oO 4 (.mv (.const (.string ⟨⟨[98,111,111,108]⟩⟩)))] .ret) (sR [mM 16 0,oO 17 (.call (.func 39) [tT 16,iC 4,.const (.string ⟨⟨[91]⟩⟩)]),mM 15 17] (cO 15 (sR [mM 18 0,mM 19 1,bI 20 .add 19 1,cC 21 65 [tT 18,tT 20],mM 5 21] (sR [mM 22 0,oO 23 (.call (.func 42) [tT 22,.const (.string ⟨⟨[93]⟩⟩)])] (sR [mM 24 5,oO 25 (.bin .add (.const (.string ⟨⟨[91]⟩⟩)) (tT 24)),oO 26 (.bin .add (tT 25) (.const (.string ⟨⟨[93]⟩⟩))),mM 4 26] .ret))) (sR [mM 28 0,oO 29 (.call (.func 39) [tT 28,iC 4,.const (.string ⟨⟨[123]⟩⟩)]),mM 27 29] (cO 27 (sR [mM 30 0,cC 31 82 [tT 30],mM 6 31] (sR [mM 32 0,oO 33 (.call (.func 42) [tT 32,.const (.string ⟨⟨[58]⟩⟩)])] (sR [mM 34 0,mM 35 1,bI 36 .add 35 1,cC 37 65 [tT 34,tT 36],mM 7 37] (sR [mM 38 0,oO 39 (.call (.func 42) [tT 38,.const (.string ⟨⟨[125]⟩⟩)])] (sR [mM 40 6,oO 41 (.bin .add (.const (.string ⟨⟨[123]⟩⟩)) (tT 40)),oO 42 (.bin .add (tT 41) (.const (.string ⟨⟨[58]⟩⟩))),mM 43 7,bB 44 .add 42 43,oO 45 (.bin .add (tT 44) (.const (.string ⟨⟨[125]⟩⟩))),mM 4 45] .ret))))) .skip))))))) (sR [mM 46 0,cC 47 82 [tT 46],mM 4 47] .ret)))
theorem fz0:FnIs prog gd0 48 dp0 [(.mv (.tmp 4))]:=.of (fn:=Tryz.f65) Tryz.func65 (by kernel_rfl)
def bE0:Cd:=.seq (sR [mM 6 0,mM 7 1,cC 8 39 [tT 6,iC 4,tT 7]] (cO 8 .ret .skip)) (.blk 0 (.loop (.blk 1 (sR [mM 9 2,oO 10 (.call (tT 9) [])] (.seq (sR [mM 11 0,mM 12 1,cC 13 39 [tT 11,iC 4,tT 12]] (cO 13 .ret .skip)) (.reg [mM 14 0,oO 15 (.call (.func 42) [tT 14,.const (.string ⟨⟨[44]⟩⟩)])]))))))
theorem cs0:FnIs prog bV0 16 bE0 []:=.of (fn:=Tryz.f66) Tryz.func66 (by kernel_rfl)
def di0:Cd:=.dreg ⟨[(fA 2 2 0,[]),(lD 3 2,[0]),(lD 4 1,[]),(cC 5 44 [tT 4],[2]),(oO 6 (.mkrow 74 3 [tT 5]),[2,3])],[oO 7 (.app 74 3 40 (tT 3) (tT 6)),fA 8 2 0,sT 1 8 7],[0]⟩
theorem gA0:FnIs prog a30 9 di0 []:=.of (fn:=Tryz.f67) Tryz.func67 (by kernel_rfl)
def eO0:Cd:=sR [oO 4 (.mv (.const (.slice none 0 0)))] (sR [mM 6 0,mM 7 1,cC 8 83 [tT 6,tT 7]] (sR [mM 9 0,oO 10 (.call (.func 42) [tT 9,.const (.string ⟨⟨[123]⟩⟩)])] (sR [oO 5 (.mv (.const (.slice none 0 0)))] (.seq (.blk 0 (.loop (.seq (sR [mM 11 0,oO 12 (.call (.func 39) [tT 11,iC 4,.const (.string ⟨⟨[125]⟩⟩)]),oO 13 (.un .not (tT 12))] (cO 13 .skip (.exit 0))) (.blk 1 (.reg [mM 14 5,mM 15 0,mM 16 1,cC 17 84 [tT 15,tT 16],oO 18 (.mkrow 41 9 [tT 17]),oO 19 (.app 41 9 128 (tT 14) (tT 18)),mM 5 19]))))) (sR [mM 20 5,mM 4 20] .ret)))))
theorem iF0:FnIs prog cr0 21 eO0 [(.mv (.tmp 4))]:=.of (fn:=Tryz.f68) Tryz.func68 (by kernel_rfl)
def fV0:Cd:=sR [oO 4 (.mv (.const (.string ⟨⟨[]⟩⟩)))] (.seq (sR [mM 7 0,oO 8 (.bin .eql (tT 7) (.const (.string ⟨⟨[]⟩⟩))),mM 9 8,xM 10 9 false 1,gO 11 9 false (.bin .eql (tT 10) (.const (.string ⟨⟨[]⟩⟩))),pT 12 9 11] (cO 12 (sR [mM 13 0,mM 4 13] .ret) .skip)) (.seq (sR [mM 14 1,lS 15 14,bI 16 .eql 15 1,mM 17 16,xM 18 17 true 1,gO 19 17 true (.ixS (tT 18) (iC 0)),gO 20 17 true (.bin .lss (tT 19) (.const (.int .u8 128))),pF 21 17 20] (cO 21 (.seq (.dreg ⟨[(mM 22 0,[]),(mM 23 1,[]),(oO 24 (.ixS (tT 23) (iC 0)),[1]),(cC 25 91 [tT 22,tT 24],[0,1,2]),(mM 26 1,[]),(oO 27 (.ixS (tT 26) (iC 0)),[4])],[cC 28 90 [tT 25,tT 27],mM 4 28],[0,1,4]⟩) .ret) .skip)) (.seq (sR [mM 30 1,cC 31 92 [tT 30],mM 29 31,eX 32 29 0,eX 33 29 1,oO 5 (.alloc [.c (.bool false),.c (.bool false),.c (.bool false),.c (.bool false),.c (.bool false),.c (.bool false),.c (.bool false),.c (.bool false),.c (.bool false),.c (.bool false),.c (.bool false),.c (.bool false),.c (.bool false),.c (.bool false),.c (.bool false),.c (.bool false),.c (.bool false),.c (.bool false),.c (.bool false),.c (.bool false),.c (.bool false),.c (.bool false),.c (.bool false),.c (.bool false),.c (.bool false),.c (.bool false),.c (.bool false),.c (.bool false),.c (.bool false),.c (.bool false),.c (.bool false),.c (.bool false),.c (.bool false),.c (.bool false),.c (.bool false),.c (.bool false),.c (.bool false),.c (.bool false),.c (.bool false),.c (.bool false),.c (.bool false),.c (.bool false),.c (.bool false),.c (.bool false),.c (.bool false),.c (.bool false),.c (.bool false),.c (.bool false),.c (.bool false),.c (.bool false),.c (.bool false),.c (.bool false),.c (.bool false),.c (.bool false),.c (.bool false),.c (.bool false),.c (.bool false),.c (.bool false),.c (.bool false),.c (.bool false),.c (.bool false),.c (.bool false),.c (.bool false),.c (.bool false),.c (.bool false),.c (.bool false),.c (.bool false),.c (.bool false),.c (.bool false),.c (.bool false),.c (.bool false),.c (.bool false),.c (.bool false),.c (.bool false),.c (.bool false),.c (.bool false),.c (.bool false),.c (.bool false),.c (.bool false),.c (.bool false),.c (.bool false),.c (.bool false),.c (.bool false),.c (.bool false),.c (.bool false),.c (.bool false),.c (.bool false),.c (.bool false),.c (.bool false),.c (.bool false),.c (.bool false),.c (.bool false),.c (.bool false),.c (.bool false),.c (.bool false),.c (.bool false),.c (.bool false),.c (.bool false),.c (.bool false),.c (.bool false),.c (.bool false),.c (.bool false),.c (.bool false),.c (.bool false),.c (.bool false),.c (.bool false),.c (.bool false),.c (.bool false),.c (.bool false),.c (.bool false),.c (.bool false),.c (.bool false),.c (.bool false),.c (.bool false),.c (.bool false),.c (.bool false),.c (.bool false),.c (.bool false),.c (.bool false),.c (.bool false),.c (.bool false),.c (.bool false),.c (.bool false),.c (.bool false),.c (.bool false),.c (.bool false),.c (.bool false),.c (.bool false),.c (.bool false),.c (.bool false),.c (.bool false),.c (.bool false),.c (.bool false),.c (.bool false),.c (.bool false),.c (.bool false),.c (.bool false),.c (.bool false),.c (.bool false),.c (.bool false),.c (.bool false),.c (.bool false),.c (.bool false),.c (.bool false),.c (.bool false),.c (.bool false),.c (.bool false),.c (.bool false),.c (.bool false),.c (.bool false),.c (.bool false),.c (.bool false),.c (.bool false),.c (.bool false),.c (.bool false),.c (.bool false),.c (.bool false),.c (.bool false),.c (.bool false),.c (.bool false),.c (.bool false),.c (.bool false),.c (.bool false),.c (.bool false),.c (.bool false),.c (.bool false),.c (.bool false),.c (.bool false),.c (.bool false),.c (.bool false),.c (.bool false),.c (.bool false),.c (.bool false),.c (.bool false),.c (.bool false),.c (.bool false),.c (.bool false),.c (.bool false),.c (.bool false),.c (.bool false),.c (.bool false),.c (.bool false),.c (.bool false),.c (.bool false),.c (.bool false),.c (.bool false),.c (.bool false),.c (.bool false),.c (.bool false),.c (.bool false),.c (.bool false),.c (.bool false),.c (.bool false),.c (.bool false),.c (.bool false),.c (.bool false),.c (.bool false),.c (.bool false),.c (.bool false),.c (.bool false),.c (.bool false),.c (.bool false),.c (.bool false),.c (.bool false),.c (.bool false),.c (.bool false),.c (.bool false),.c (.bool false),.c (.bool false),.c (.bool false),.c (.bool false),.c (.bool false),.c (.bool false),.c (.bool false),.c (.bool false),.c (.bool false),.c (.bool false),.c (.bool false),.c (.bool false),.c (.bool false),.c (.bool false),.c (.bool false),.c (.bool false),.c (.bool false),.c (.bool false),.c (.bool false),.c (.bool false),.c (.bool false),.c (.bool false),.c (.bool false),.c (.bool false),.c (.bool false),.c (.bool false),.c (.bool false),.c (.bool false),.c (.bool false),.c (.bool false),.c (.bool false),.c (.bool false),.c (.bool false),.c (.bool false),.c (.bool false),.c (.bool false),.c (.bool false),.c (.bool false),.c (.bool false),.c (.bool false),.c (.bool false),.c (.bool false),.c (.bool false),.c (.bool false),.c (.bool false),.c (.bool false),.c (.bool false),.c (.bool false),.c (.bool false)]),sT 256 5 32,mM 6 33] (sR [mM 34 6] (cO 34 (sR [mM 35 0,cC 36 94 [tT 35,tT 5],cC 37 93 [tT 36,tT 5],mM 4 37] .ret) .skip))) (sR [mM 38 0,mM 39 1,cC 40 96 [tT 38,tT 39],mM 41 1,cC 42 95 [tT 40,tT 41],mM 4 42] .ret))))
theorem mK0:FnIs prog jZ0 43 fV0 [(.mv (.tmp 4))]:=.of (fn:=Tryz.f71) Tryz.func71 (by kernel_rfl)
def b80:Cd:=sR [mB 4 false] (sR [mM 5 0,mM 6 1,cC 7 97 [tT 5,tT 6],bI 8 .geq 7 0,mM 4 8] .ret)
theorem eh0:FnIs prog bj0 9 b80 [(.mv (.tmp 4))]:=.of (fn:=Tryz.f72) Tryz.func72 (by kernel_rfl)
def aC0:Cd:=sR [bX 3 8 1] (sR [oO 8 (.mkmap (some .i64)),nO (.mput (some .i64) (tT 8) (iC 12) (iC 2)),nO (.mput (some .i64) (tT 8) (iC 13) (iC 1)),nO (.mput (some .i64) (tT 8) (iC 14) (iC 1)),nO (.mput (some .i64) (tT 8) (iC 15) (iC 2)),mM 9 8,fA 10 0 3,lD 11 10,oO 12 (.mget (some .i64) (.int .i64 0) false (tT 9) (tT 11)),mM 4 12] (sR [fA 13 0 3,lD 14 13,bI 15 .eql 14 7,mM 16 15,xF 17 16 false 6 3,xD 18 16 false 17,xL 19 16 false 18,xM 20 16 false 4,gO 21 16 false (.bin .eql (tT 19) (tT 20)),pT 22 16 21,cC 23 21 [tT 22]] (sR [fA 24 0 3,lD 25 24] (.blk 0 (sR [bI 28 .eql 25 1,mM 27 28] (cO 27 (sR [fA 29 2 3,lD 30 29,bI 31 .geq 30 0,cC 32 21 [tT 31]] (.reg [mM 33 0,fA 34 2 3,lD 35 34,cC 36 23 [tT 35],oO 37 (.mkrow 9 1 [tT 36]),cC 38 22 [tT 33,tT 37]])) (sR [bI 40 .eql 25 2,mM 39 40] (cO 39 (sR [fA 41 2 3,lD 42 41,bI 43 .eql 42 0,mM 44 43,xF 45 44 false 2 3,xD 46 44 false 45,xI 47 44 false .eql 46 1,pT 48 44 47,cC 49 21 [tT 48]] (.reg [mM 50 0,fA 51 2 3,lD 52 51,bI 53 .eql 52 1,cC 54 99 [tT 53],oO 55 (.mkrow 9 1 [tT 54]),cC 56 22 [tT 50,tT 55]])) (sR [bI 58 .eql 25 3,mM 57 58] (cO 57 (sR [fA 59 3 3,lD 60 59,cC 61 100 [tT 60],cC 62 21 [tT 61]] (.reg [mM 63 0,fA 64 3 3,lD 65 64,cC 66 101 [tT 65],oO 67 (.mkrow 9 1 [tT 66]),cC 68 22 [tT 63,tT 67]])) (sR [bI 70 .eql 25 6,mM 69 70] (cO 69 (.reg [mM 71 0,fA 72 3 3,lD 73 72,cC 74 25 [tT 73],oO 75 (.mkrow 9 1 [tT 74]),cC 76 22 [tT 71,tT 75]]) (sR [bI 78 .eql 25 7,mM 77 78] (cO 77 (sR [mM 79 0,fA 80 3 3,lD 81 80,cC 82 25 [tT 81],oO 83 (.mkrow 9 1 [tT 82,.const (.string ⟨⟨[40]⟩⟩)]),cC 84 22 [tT 79,tT 83]] (sR [mM 85 0,fA 86 6 3,lD 87 86,cC 88 102 [tT 85,tT 87]] (.reg [mM 89 0,oO 90 (.mkrow 9 1 [.const (.string ⟨⟨[41]⟩⟩)]),cC 91 22 [tT 89,tT 90]]))) (sR [bI 93 .eql 25 12,mM 92 93] (cO 92 (sR [fA 94 6 3,lD 95 94,oO 96 (.ia 8 (tT 95) (iC 0)),fA 97 0 96,lD 98 97,mM 5 98] (sR [mM 99 0,fA 100 6 3,lD 101 100,oO 102 (.ia 8 (tT 101) (iC 0)),lA 103 8 102,mM 104 5,bI 105 .eql 104 15,mM 106 105,xM 107 106 false 5,xI 108 106 false .eql 107 13,pT 109 106 108,mM 110 109,xM 111 110 false 5,xI 112 110 false .eql 111 14,pT 113 110 112,cC 114 103 [tT 99,tT 103,tT 113]] (sR [mM 115 0,oO 116 (.mkrow 9 1 [.const (.string ⟨⟨[91]⟩⟩)]),cC 117 22 [tT 115,tT 116]] (sR [mM 118 0,fA 119 6 3,lD 120 119,oO 121 (.ia 8 (tT 120) (iC 1)),lA 122 8 121,cC 123 74 [tT 118,tT 122]] (.reg [mM 124 0,oO 125 (.mkrow 9 1 [.const (.string ⟨⟨[93]⟩⟩)]),cC 126 22 [tT 124,tT 125]]))))) (.seq (sR [bI 128 .eql 25 13,mM 127 128] (cO 127 .skip (.reg [bI 129 .eql 25 14,mM 127 129]))) (cO 127 (sR [mM 130 0,fA 131 0 3,lD 132 131,bI 133 .sub 132 13,oO 134 (.slS (.const (.string ⟨⟨[45,33]⟩⟩)) (some (tT 133)) none),oO 135 (.slS (tT 134) none (some (iC 1))),oO 136 (.mkrow 9 1 [tT 135]),cC 137 22 [tT 130,tT 136]] (.dreg ⟨[(mM 138 0,[]),(fA 139 6 3,[]),(lD 140 139,[1]),(oO 141 (.ia 8 (tT 140) (iC 0)),[1,2]),(lA 142 8 141,[1,2,3]),(fA 143 6 3,[]),(lD 144 143,[5]),(oO 145 (.ia 8 (tT 144) (iC 0)),[5,6]),(fA 146 0 145,[5,6,7]),(lD 147 146,[5,6,7,8]),(bI 148 .eql 147 15,[5,6,7,8,9])],[cC 149 103 [tT 138,tT 142,tT 148]],[0,1,5,8]⟩)) (sR [bI 151 .eql 25 15,mM 150 151] (cO 150 (sR [fA 152 1 3,lD 153 152,cC 154 104 [tT 153],mM 6 154] (sR [mM 155 6,mM 7 155] (.seq (sR [mM 156 6,bI 157 .eql 156 3] (cO 157 (.reg [mM 158 6,bI 159 .add 158 1,mM 7 159]) .skip)) (.seq (.dreg ⟨[(mM 160 0,[]),(fA 161 6 3,[]),(lD 162 161,[1]),(oO 163 (.ia 8 (tT 162) (iC 0)),[1,2]),(lA 164 8 163,[1,2,3]),(fA 165 6 3,[]),(lD 166 165,[5]),(oO 167 (.ia 8 (tT 166) (iC 0)),[5,6]),(lA 168 8 167,[5,6,7]),(mM 169 7,[]),(cC 170 105 [tT 168,tT 169],[5,6,7,8,9])],[cC 171 103 [tT 160,tT 164,tT 170]],[0,1,5,9]⟩) (.seq (.dreg ⟨[(mM 172 0,[]),(cC 173 106 [],[]),(fA 174 1 3,[]),(lD 175 174,[2]),(bI 176 .sub 175 1,[2,3]),(iA 177 1 173 176,[1,2,3,4]),(lD 178 177,[1,2,3,4,5]),(oO 179 (.mkrow 9 1 [.const (.string ⟨⟨[32]⟩⟩),tT 178,.const (.string ⟨⟨[32]⟩⟩)]),[1,2,3,4,5,6])],[cC 180 22 [tT 172,tT 179]],[0,2]⟩) (.dreg ⟨[(mM 181 0,[]),(fA 182 6 3,[]),(lD 183 182,[1]),(oO 184 (.ia 8 (tT 183) (iC 1)),[1,2]),(lA 185 8 184,[1,2,3]),(fA 186 6 3,[]),(lD 187 186,[5]),(oO 188 (.ia 8 (tT 187) (iC 1)),[5,6]),(lA 189 8 188,[5,6,7]),(mM 190 6,[]),(bI 191 .add 190 1,[9]),(cC 192 105 [tT 189,tT 191],[5,6,7,8,9,10])],[cC 193 103 [tT 181,tT 185,tT 192]],[0,1,5,9]⟩)))))) (.reg [cC 26 21 [bC false]])))))))))))))))))))))
theorem aF0:FnIs prog gh0 194 aC0 []:=.of (fn:=Tryz.f74) Tryz.func74 (by kernel_rfl)
def b60:Cd:=sR [oO 4 (.mv (.const (.string ⟨⟨[]⟩⟩))),mB 5 false] (.seq (sR [mM 6 0,mM 7 1,cC 8 81 [tT 6,tT 7],oO 9 (.un .not (tT 8))] (cO 9 (sR [mM 10 0,mM 4 10,mB 5 false] .ret) .skip)) (sR [mM 11 0,mM 12 1,lS 13 12,oO 14 (.slS (tT 11) (some (tT 13)) none),mM 4 14,mB 5 true] .ret))
theorem ed0:FnIs prog cl0 15 b60 [(.mv (.tmp 4)),(.mv (.tmp 5))]:=.of (fn:=Tryz.f78) Tryz.func78 (by kernel_rfl)
def b70:Cd:=sR [mC 4 0] (sR [mM 5 0,mM 6 1,cC 7 110 [tT 5,tT 6],mM 4 7] .ret)
theorem ef0:FnIs prog cn0 8 b70 [(.mv (.tmp 4))]:=.of (fn:=Tryz.f79) Tryz.func79 (by kernel_rfl)
def bK0:Cd:=sR [oO 4 (.mv (.const .nilIface))] (sR [mM 5 0,cC 6 69 [tT 5]] (sR [mM 7 0,mM 8 0,nC 9 8,fA 10 1 9,lD 11 10,mM 12 1,oO 13 (.mkrow 5 1 [tT 12]),oO 14 (.app 5 1 1 (tT 11) (tT 13)),nC 15 7,fA 16 1 15,sT 1 16 14] (sR [oO 4 (.mv (.const .nilIface))] .ret)))
theorem cX0:FnIs prog bW0 17 bK0 [(.mv (.tmp 4))]:=.of (fn:=Tryz.f80) Tryz.func80 (by kernel_rfl)
def bg0:Cd:=sR [mB 4 false] (sR [mM 5 0,lS 6 5,mM 7 1,lS 8 7,bB 9 .geq 6 8,mM 10 9,xM 11 10 true 0,xM 12 10 true 1,gO 13 10 true (.lenS (tT 12)),gO 14 10 true (.slS (tT 11) none (some (tT 13))),xM 15 10 true 1,gO 16 10 true (.bin .eql (tT 14) (tT 15)),pF 17 10 16,mM 4 17] .ret)
theorem ee0:FnIs prog cm0 18 bg0 [(.mv (.tmp 4))]:=.of (fn:=Tryz.f81) Tryz.func81 (by kernel_rfl)
def fT0:Cd:=sR [oO 2 (.mv (.const (.string ⟨⟨[]⟩⟩)))] (.seq (sR [oO 5 (.mkrow 9 1 [.const (.string ⟨⟨[105,110,116]⟩⟩),.const (.string ⟨⟨[116,101,120,116]⟩⟩)]),lN 6 5,mC 7 0] (.blk 0 (.loop (sR [bB 8 .lss 7 6] (.seq (cO 8 .skip (.exit 0)) (.seq (.blk 1 (sR [iA 9 1 5 7,lD 10 9,mM 4 10] (sR [mM 11 0,mM 12 4,cC 13 39 [tT 11,iC 1,tT 12]] (cO 13 (sR [mM 14 4,mM 2 14] .ret) .skip)))) (.reg [bI 15 .add 7 1,mM 7 15]))))))) (sR [mM 16 0,cC 17 40 [tT 16,iC 31]] (sR [oO 2 (.mv (.const (.string ⟨⟨[]⟩⟩)))] .ret)))
theorem kg0:FnIs prog gI0 18 fT0 [(.mv (.tmp 2))]:=.of (fn:=Tryz.f82) Tryz.func82 (by kernel_rfl)
def do0:Cd:=sR [mM 4 1,bI 5 .gtr 4 24] (cO 5 (.reg [mM 6 0,cC 7 40 [tT 6,iC 32]]) .skip)
theorem jB0:FnIs prog ga0 8 do0 []:=.of (fn:=Tryz.f83) Tryz.func83 (by kernel_rfl)
def dt0:Cd:=sR [bX 2 1 0,bX 3 1 1,oO 4 (.alloc [zI,zS,zI,.c (.bool false),zI,.nil,.nil,.nil,zI])] (sR [lD 8 2,cC 9 43 [tT 8],oO 10 (.fld 3 (tT 9)),oO 11 (.build [zI,zS,zI,.c (.bool false),zI,.nil,.nil,.nil,zI] [(8,1,tT 10)]),oO 5 (.alloc [zI,zS,zI,.c (.bool false),zI,.nil,.nil,.nil,zI]),sT 9 5 11] (sR [oO 12 (.mkfn 111 [tT 5,tT 2,tT 3]),mM 6 12] (sR [oO 13 (.mkfn 113 [tT 2,tT 5]),mM 7 13] (.seq (.blk 0 (sR [lD 17 2,oO 18 (.call (.func 39) [tT 17,iC 1,.const (.string ⟨⟨[108,101,116]⟩⟩)]),mM 16 18] (cO 16 (sR [mM 19 7,oO 20 (.call (tT 19) [iC 1])] (sR [lD 21 2,oO 22 (.call (.func 42) [tT 21,.const (.string ⟨⟨[61]⟩⟩)])] (.reg [mM 23 6,oO 24 (.call (tT 23) [.const (.string ⟨⟨[59]⟩⟩)])]))) (sR [lD 26 2,oO 27 (.call (.func 39) [tT 26,iC 1,.const (.string ⟨⟨[115,101,116]⟩⟩)]),mM 25 27] (cO 25 (sR [mM 28 7,oO 29 (.call (tT 28) [iC 2])] (.seq (sR [lD 30 2,oO 31 (.call (.func 39) [tT 30,iC 4,.const (.string ⟨⟨[91]⟩⟩)])] (cO 31 (.reg [mM 32 6,oO 33 (.call (tT 32) [.const (.string ⟨⟨[93]⟩⟩)])]) .skip)) (sR [lD 34 2,oO 35 (.call (.func 42) [tT 34,.const (.string ⟨⟨[61]⟩⟩)])] (.reg [mM 36 6,oO 37 (.call (tT 36) [.const (.string ⟨⟨[59]⟩⟩)])])))) (sR [lD 39 2,oO 40 (.call (.func 39) [tT 39,iC 1,.const (.string ⟨⟨[100,101,108]⟩⟩)]),mM 38 40] (cO 38 (sR [mM 41 7,oO 42 (.call (tT 41) [iC 3])] (sR [lD 43 2,oO 44 (.call (.func 42) [tT 43,.const (.string ⟨⟨[91]⟩⟩)])] (sR [mM 45 6,oO 46 (.call (tT 45) [.const (.string ⟨⟨[93]⟩⟩)])] (.reg [lD 47 2,oO 48 (.call (.func 42) [tT 47,.const (.string ⟨⟨[59]⟩⟩)])])))) (sR [lD 50 2,oO 51 (.call (.func 39) [tT 50,iC 1,.const (.string ⟨⟨[105,102]⟩⟩)]),mM 49 51] (cO 49 (sR [fA 52 0 5,nO (.st 1 (tT 52) (iC 4))] (sR [mM 53 6,oO 54 (.call (tT 53) [.const (.string ⟨⟨[]⟩⟩)])] (sR [lD 55 2,lD 56 3,bI 57 .add 56 1,cC 58 68 [tT 55,tT 57],fA 59 6 5,sT 1 59 58] (sR [lD 60 2,oO 61 (.call (.func 39) [tT 60,iC 1,.const (.string ⟨⟨[101,108,115,101]⟩⟩)])] (cO 61 (.reg [lD 62 2,lD 63 3,bI 64 .add 63 1,cC 65 68 [tT 62,tT 64],fA 66 7 5,sT 1 66 65]) .skip))))) (sR [lD 68 2,oO 69 (.call (.func 39) [tT 68,iC 1,.const (.string ⟨⟨[102,111,114]⟩⟩)]),mM 67 69] (cO 67 (sR [mM 70 7,oO 71 (.call (tT 70) [iC 5])] (.seq (sR [lD 72 2,oO 73 (.call (.func 39) [tT 72,iC 1,.const (.string ⟨⟨[116,111]⟩⟩)]),oO 74 (.un .not (tT 73))] (cO 74 (.reg [lD 75 2,cC 76 40 [tT 75,iC 31]]) .skip)) (sR [mM 77 6,oO 78 (.call (tT 77) [.const (.string ⟨⟨[]⟩⟩)])] (.reg [lD 79 2,lD 80 3,bI 81 .add 80 1,cC 82 68 [tT 79,tT 81],fA 83 6 5,sT 1 83 82])))) (sR [lD 85 2,oO 86 (.call (.func 39) [tT 85,iC 1,.const (.string ⟨⟨[114,101,116]⟩⟩)]),mM 84 86] (cO 84 (sR [fA 87 0 5,nO (.st 1 (tT 87) (iC 6))] (.reg [mM 88 6,oO 89 (.call (tT 88) [.const (.string ⟨⟨[59]⟩⟩)])])) (.reg [lD 14 2,cC 15 40 [tT 14,iC 31]])))))))))))))) (sR [lA 90 9 5,sT 9 4 90] .ret)))))
theorem g00:FnIs prog bu0 91 dt0 [(.lda 9 (.tmp 4))]:=.of (fn:=Tryz.f84) Tryz.func84 (by kernel_rfl)
end Go.Am
end

section
set_option maxRecDepth 100000
namespace Go.Am
open Go.Proofs
def dY0:Cd:=sR [oO 2 (.alloc [.c (.bool false),.c (.bool false),.c (.bool false),.c (.bool false),.c (.bool false),.c (.bool false),.c (.bool false),.c (.bool false),.c (.bool false),.c (.bool false),.c (.bool false),.c (.bool false),.c (.bool false),.c (.bool false),.c (.bool false),.c (.bool false),.c (.bool false),.c (.bool false),.c (.bool false),.c (.bool false),.c (.bool false),.c (.bool false),.c (.bool false),.c (.bool false),.c (.bool false),.c (.bool false),.c (.bool false),.c (.bool false),.c (.bool false),.c (.bool false),.c (.bool false),.c (.bool false),.c (.bool false),.c (.bool false),.c (.bool false),.c (.bool false),.c (.bool false),.c (.bool false),.c (.bool false),.c (.bool false),.c (.bool false),.c (.bool false),.c (.bool false),.c (.bool false),.c (.bool false),.c (.bool false),.c (.bool false),.c (.bool false),.c (.bool false),.c (.bool false),.c (.bool false),.c (.bool false),.c (.bool false),.c (.bool false),.c (.bool false),.c (.bool false),.c (.bool false),.c (.bool false),.c (.bool false),.c (.bool false),.c (.bool false),.c (.bool false),.c (.bool false),.c (.bool false),.c (.bool false),.c (.bool false),.c (.bool false),.c (.bool false),.c (.bool false),.c (.bool false),.c (.bool false),.c (.bool false),.c (.bool false),.c (.bool false),.c (.bool false),.c (.bool false),.c (.bool false),.c (.bool false),.c (.bool false),.c (.bool false),.c (.bool false),.c (.bool false),.c (.bool false),.c (.bool false),.c (.bool false),.c (.bool false),.c (.bool false),.c (.bool false),.c (.bool false),.c (.bool false),.c (.bool false),.c (.bool false),.c (.bool false),.c (.bool false),.c (.bool false),.c (.bool false),.c (.bool false),.c (.bool false),.c (.bool false),.c (.bool false),.c (.bool false),.c (.bool false),.c (.bool false),.c (.bool false),.c (.bool false),.c (.bool false),.c (.bool false),.c (.bool false),.c (.bool false),.c (.bool false),.c (.bool false),.c (.bool false),.c (.bool false),.c (.bool false),.c (.bool false),.c (.bool false),.c (.bool false),.c (.bool false),.c (.bool false),.c (.bool false),.c (.bool false),.c (.bool false),.c (.bool false),.c (.bool false),.c (.bool false),.c (.bool false),.c (.bool false),.c (.bool false),.c (.bool false),.c (.bool false),.c (.bool false),.c (.bool false),.c (.bool false),.c (.bool false),.c (.bool false),.c (.bool false),.c (.bool false),.c (.bool false),.c (.bool false),.c (.bool false),.c (.bool false),.c (.bool false),.c (.bool false),.c (.bool false),.c (.bool false),.c (.bool false),.c (.bool false),.c (.bool false),.c (.bool false),.c (.bool false),.c (.bool false),.c (.bool false),.c (.bool false),.c (.bool false),.c (.bool false),.c (.bool false),.c (.bool false),.c (.bool false),.c (.bool false),.c (.bool false),.c (.bool false),.c (.bool false),.c (.bool false),.c (.bool false),.c (.bool false),.c (.bool false),.c (.bool false),.c (.bool false),.c (.bool false),.c (.bool false),.c (.bool false),.c (.bool false),.c (.bool false),.c (.bool false),.c (.bool false),.c (.bool false),.c (.bool false),.c (.bool false),.c (.bool false),.c (.bool false),.c (.bool false),.c (.bool false),.c (.bool false),.c (.bool false),.c (.bool false),.c (.bool false),.c (.bool false),.c (.bool false),.c (.bool false),.c (.bool false),.c (.bool false),.c (.bool false),.c (.bool false),.c (.bool false),.c (.bool false),.c (.bool false),.c (.bool false),.c (.bool false),.c (.bool false),.c (.bool false),.c (.bool false),.c (.bool false),.c (.bool false),.c (.bool false),.c (.bool false),.c (.bool false),.c (.bool false),.c (.bool false),.c (.bool false),.c (.bool false),.c (.bool false),.c (.bool false),.c (.bool false),.c (.bool false),.c (.bool false),.c (.bool false),.c (.bool false),.c (.bool false),.c (.bool false),.c (.bool false),.c (.bool false),.c (.bool false),.c (.bool false),.c (.bool false),.c (.bool false),.c (.bool false),.c (.bool false),.c (.bool false),.c (.bool false),.c (.bool false),.c (.bool false),.c (.bool false),.c (.bool false),.c (.bool false),.c (.bool false),.c (.bool false),.c (.bool false),.c (.bool false),.c (.bool false),.c (.bool false),.c (.bool false),.c (.bool false),.c (.bool false),.c (.bool false),.c (.bool false),.c (.bool false),.c (.bool false),.c (.bool false),.c (.bool false),.c (.bool false),.c (.bool false),.c (.bool false),.c (.bool false),.c (.bool false),.c (.bool false),.c (.bool false)]),mB 3 false] (.seq (sR [mC 4 0] (.blk 0 (.loop (.seq (sR [mM 6 4,mM 7 0,lS 8 7,bB 9 .lss 6 8] (cO 9 .skip (.exit 0))) (.seq (.blk 1 (sR [mM 12 0,mM 13 4,oO 14 (.ixS (tT 12) (tT 13)),mM 5 14] (.seq (sR [mM 15 5,oO 16 (.bin .geq (tT 15) (.const (.int .u8 128)))] (cO 16 (sR [lA 17 256 2,sT 256 2 17,mB 3 false] .ret) .skip)) (.reg [mM 18 5,oO 19 (.iaA 256 1 (tT 2) (tT 18)),nO (.st 1 (tT 19) (bC true))])))) (.reg [mM 10 4,bI 11 .add 10 1,mM 4 11])))))) (sR [lA 20 256 2,sT 256 2 20,mB 3 true] .ret))
theorem h50:FnIs prog ew0 21 dY0 [(.lda 256 (.tmp 2)),(.mv (.tmp 3))]:=.of (fn:=Tryz.f92) Tryz.func92 (by kernel_rfl)
def dJ0:Cd:=sR [oO 4 (.mv (.const (.string ⟨⟨[]⟩⟩)))] (.seq (.blk 0 (.loop (.seq (sR [mM 5 0,lS 6 5,bI 7 .gtr 6 0] (cO 7 .skip (.exit 0))) (.blk 1 (.seq (sR [mM 8 1,mM 9 0,oO 10 (.ixS (tT 9) (iC 0)),cC 11 119 [tT 8,tT 10],oO 12 (.un .not (tT 11))] (cO 12 (.exit 0) .skip)) (.reg [mM 13 0,oO 14 (.slS (tT 13) (some (iC 1)) none),mM 0 14])))))) (sR [mM 15 0,mM 4 15] .ret))
theorem hE0:FnIs prog eb0 16 dJ0 [(.mv (.tmp 4))]:=.of (fn:=Tryz.f93) Tryz.func93 (by kernel_rfl)
def dv0:Cd:=sR [oO 4 (.mv (.const (.string ⟨⟨[]⟩⟩)))] (.seq (.blk 0 (.loop (.seq (sR [mM 5 0,lS 6 5,bI 7 .gtr 6 0] (cO 7 .skip (.exit 0))) (.blk 1 (.seq (sR [mM 8 1,mM 9 0,mM 10 0,lS 11 10,bI 12 .sub 11 1,oO 13 (.ixS (tT 9) (tT 12)),cC 14 119 [tT 8,tT 13],oO 15 (.un .not (tT 14))] (cO 15 (.exit 0) .skip)) (.reg [mM 16 0,mM 17 0,lS 18 17,bI 19 .sub 18 1,oO 20 (.slS (tT 16) none (some (tT 19))),mM 0 20])))))) (sR [mM 21 0,mM 4 21] .ret))
theorem g40:FnIs prog dM0 22 dv0 [(.mv (.tmp 4))]:=.of (fn:=Tryz.f94) Tryz.func94 (by kernel_rfl)
def cx0:Cd:=sR [mC 4 0] (.seq (sR [mM 6 0,lN 7 6,mC 8 0] (.blk 0 (.loop (sR [bB 9 .lss 8 7] (.seq (cO 9 .skip (.exit 0)) (.seq (.blk 1 (sR [mM 10 8,mM 5 10] (sR [mM 11 1,mM 12 0,mM 13 5,iA 14 1 12 13,lD 15 14,bB 16 .eql 11 15] (cO 16 (sR [mM 17 5,mM 4 17] .ret) .skip)))) (.reg [bI 18 .add 8 1,mM 8 18]))))))) (sR [mC 4 (-1)] .ret))
theorem eX0:FnIs prog bA0 19 cx0 [(.mv (.tmp 4))]:=.of (fn:=Tryz.f97) Tryz.func97 (by kernel_rfl)
def eQ0:Cd:=sR [oO 2 (.mv (.const (.string ⟨⟨[]⟩⟩)))] (sR [mM 3 0,cC 4 123 [tT 3],mM 2 4] .ret)
theorem iH0:FnIs prog fy0 5 eQ0 [(.mv (.tmp 2))]:=.of (fn:=Tryz.f99) Tryz.func99 (by kernel_rfl)
def ix0:Cd:=sR [mB 2 false] (sR [mM 3 0,lS 4 3,bI 5 .leq 4 256,mM 6 5,xM 7 6 true 0,gO 8 6 true (.call (.func 124) [tT 7,.func 125]),xI 9 6 true .lss 8 0,pF 10 6 9,mM 2 10] .ret)
theorem ps0:FnIs prog mA0 11 ix0 [(.mv (.tmp 2))]:=.of (fn:=Tryz.f100) Tryz.func100 (by kernel_rfl)
def lE0:Cd:=sR [oO 2 (.mv (.const (.string ⟨⟨[]⟩⟩)))] (sR [oO 3 (.mkrow 9 1 [.const (.string ⟨⟨[92]⟩⟩),.const (.string ⟨⟨[92,92]⟩⟩),.const (.string ⟨⟨[34]⟩⟩),.const (.string ⟨⟨[92,34]⟩⟩)]),cC 4 126 [tT 3],mM 5 0,cC 6 127 [tT 4,tT 5],oO 7 (.bin .add (.const (.string ⟨⟨[34]⟩⟩)) (tT 6)),oO 8 (.bin .add (tT 7) (.const (.string ⟨⟨[34]⟩⟩))),mM 2 8] .ret)
theorem pt0:FnIs prog mB0 9 lE0 [(.mv (.tmp 2))]:=.of (fn:=Tryz.f101) Tryz.func101 (by kernel_rfl)
def ft0:Cd:=sR [mM 6 1,lN 7 6,mC 8 0] (.blk 0 (.loop (sR [bB 9 .lss 8 7] (.seq (cO 9 .skip (.exit 0)) (.seq (.blk 1 (sR [mM 10 8,iA 11 8 6 8,lA 12 8 11,oO 5 (.alloc [zI,zI,zI,zS,zI,zS,.nil,zI]),mM 4 10,sT 8 5 12] (.seq (sR [mM 13 4,bI 14 .gtr 13 0] (cO 14 (.reg [mM 15 0,oO 16 (.mkrow 9 1 [.const (.string ⟨⟨[44,32]⟩⟩)]),cC 17 22 [tT 15,tT 16]]) .skip)) (.reg [mM 18 0,lA 19 8 5,cC 20 74 [tT 18,tT 19]])))) (.reg [bI 21 .add 8 1,mM 8 21]))))))
theorem jJ0:FnIs prog gi0 22 ft0 []:=.of (fn:=Tryz.f102) Tryz.func102 (by kernel_rfl)
def ex0:FCd:=.seq (.reg [oO 4 (.box 8 (tT 1))]) (.seq (.reg [mM 6 2]) (.ite (tT 6) (.seq (.reg [mM 7 0,oO 8 (.mkrow 9 1 [.const (.string ⟨⟨[40]⟩⟩)]),oO 9 (.call (.func 22) [tT 7,tT 8])]) (.dfr [mM 10 0,oO 11 (.mkrow 9 1 [.const (.string ⟨⟨[41]⟩⟩)])] (.func 22) [tT 10,tT 11] (.seq (.reg [mM 12 0,lA 13 8 4,oO 14 (.call (.func 74) [tT 12,tT 13])]) .skip))) (.seq (.reg [mM 12 0,lA 13 8 4,oO 14 (.call (.func 74) [tT 12,tT 13])]) (.plain .skip))))
theorem ir0:FnD prog eR0 15 ex0 []:=.of (fn:=Tryz.f103) Tryz.func103 (by kernel_rfl)
def kA0:Cd:=sR [mC 2 0] (sR [mM 3 0,bI 4 .geq 3 1,mM 5 4,xM 6 5 true 0,xI 7 5 true .leq 6 13,pF 8 5 7,cC 9 21 [tT 8]] (.seq (.blk 0 (sR [mM 11 0,bI 12 .leq 11 2,mM 10 12] (cO 10 (sR [mM 13 0,mM 2 13] .ret) (sR [mM 15 0,bI 16 .leq 15 8,mM 14 16] (cO 14 (sR [mC 2 3] .ret) (sR [mM 18 0,bI 19 .leq 18 10,mM 17 19] (cO 17 (sR [mC 2 4] .ret) .skip))))))) (sR [mC 2 5] .ret)))
theorem oy0:FnIs prog lM0 20 kA0 [(.mv (.tmp 2))]:=.of (fn:=Tryz.f104) Tryz.func104 (by kernel_rfl)
def hR0:Cd:=sR [bX 2 8 0,mB 4 false] (sR [fA 5 0 2,lD 6 5,bI 7 .eql 6 15,mM 8 7,xF 9 8 true 1 2,xD 10 8 true 9,gO 11 8 true (.call (.func 104) [tT 10]),xM 12 8 true 1,gO 13 8 true (.bin .lss (tT 11) (tT 12)),pF 14 8 13,mM 4 14] .ret)
theorem ox0:FnIs prog lL0 15 hR0 [(.mv (.tmp 4))]:=.of (fn:=Tryz.f105) Tryz.func105 (by kernel_rfl)
def kB0:Cd:=sR [oO 0 (.mv (.const (.slice none 0 0)))] (sR [oO 1 (.mkrow 9 1 [.const (.string ⟨⟨[124,124]⟩⟩),.const (.string ⟨⟨[38,38]⟩⟩),.const (.string ⟨⟨[61,61]⟩⟩),.const (.string ⟨⟨[33,61]⟩⟩),.const (.string ⟨⟨[60]⟩⟩),.const (.string ⟨⟨[60,61]⟩⟩),.const (.string ⟨⟨[62]⟩⟩),.const (.string ⟨⟨[62,61]⟩⟩),.const (.string ⟨⟨[43]⟩⟩),.const (.string ⟨⟨[45]⟩⟩),.const (.string ⟨⟨[42]⟩⟩),.const (.string ⟨⟨[47]⟩⟩),.const (.string ⟨⟨[37]⟩⟩)]),mM 0 1] .ret)
theorem oz0:FnIs prog lN0 2 kB0 [(.mv (.tmp 0))]:=.of (fn:=Tryz.f106) Tryz.func106 (by kernel_rfl)
def bT0:Cd:=.seq (.dreg ⟨[(fA 5 5 1,[]),(lD 6 5,[0]),(lD 7 2,[]),(lD 8 3,[]),(bI 9 .add 8 1,[3]),(cC 10 112 [tT 7,tT 9],[2,3,4]),(lN 11 6,[0,1]),(oO 12 (.mkrow 24 8 [.const (.agg ⟨[.int .i64 0,.int .i64 0,.int .i64 0,.string ⟨⟨[]⟩⟩,.int .i64 0,.string ⟨⟨[]⟩⟩,.slice none 0 0,.int .i64 0]⟩)]),[]),(oO 13 (.app 24 8 96 (tT 6) (tT 12)),[0,1,2,3,4,5,6,7]),(iA 14 8 13 11,[0,1,2,3,4,5,6,7,8]),(sT 8 14 10,[0,1,2,3,4,5,6,7,8,9]),(fA 15 5 1,[0,1,2,3,4,5,6,7,8]),(sT 1 15 13,[0,1,2,3,4,5,6,7,8,11])],[],[0,11]⟩) (sR [mM 16 0,oO 17 (.bin .neq (tT 16) (.const (.string ⟨⟨[]⟩⟩)))] (cO 17 (.reg [lD 18 2,mM 19 0,cC 20 42 [tT 18,tT 19]]) .skip))
theorem c50:FnIs prog b30 21 bT0 []:=.of (fn:=Tryz.f111) Tryz.func111 (by kernel_rfl)
def fl0:Cd:=sR [oO 4 (.alloc [zI,zI,zI,zS,zI,zS,.nil,zI])] (sR [mM 5 0,mM 6 1,cC 7 83 [tT 5,tT 6]] (sR [mM 8 0,mM 9 1,cC 10 133 [tT 8,iC 0,tT 9],sT 8 4 10] .ret))
theorem jC0:FnIs prog a90 11 fl0 [(.lda 8 (.tmp 4))]:=.of (fn:=Tryz.f112) Tryz.func112 (by kernel_rfl)
def c10:Cd:=.reg [mM 4 0,lD 5 1,cC 6 41 [tT 5,iC 1],oO 7 (.fld 1 (tT 6)),fA 8 0 2,sT 1 8 4,fA 9 1 2,sT 1 9 7]
theorem go0:FnIs prog dj0 10 c10 []:=.of (fn:=Tryz.f113) Tryz.func113 (by kernel_rfl)
def cU0:Cd:=sR [mB 4 false] (sR [mM 5 0,mM 6 1,nC 7 5,oO 8 (.iaA 256 1 (tT 7) (tT 6)),lD 9 8,mM 4 9] .ret)
theorem fF0:FnIs prog c40 10 cU0 [(.mv (.tmp 4))]:=.of (fn:=Tryz.f119) Tryz.func119 (by kernel_rfl)
def bn0:Cd:=sR [oO 2 (.mv (.const (.string ⟨⟨[]⟩⟩)))] (.seq (sR [mM 3 0] (cO 3 (sR [oO 2 (.mv (.const (.string ⟨⟨[116,114,117,101]⟩⟩)))] .ret) .skip)) (sR [oO 2 (.mv (.const (.string ⟨⟨[102,97,108,115,101]⟩⟩)))] .ret))
theorem eV0:FnIs prog cJ0 4 bn0 [(.mv (.tmp 2))]:=.of (fn:=Tryz.f123) Tryz.func123 (by kernel_rfl)
def jU0:Cd:=sR [mB 2 false] (sR [mM 3 0,oO 4 (.bin .lss (tT 3) (.const (.int .i32 32))),mM 5 4,xM 6 5 false 0,gO 7 5 false (.bin .gtr (tT 6) (.const (.int .i32 126))),pT 8 5 7,mM 2 8] .ret)
theorem nt0:FnIs prog hV0 9 jU0 [(.mv (.tmp 2))]:=.of (fn:=Tryz.f125) Tryz.func125 (by kernel_rfl)
def es0:Cd:=sR [oO 2 (.mv (.const (.pointer none)))] (.seq (sR [mM 3 0,lN 4 3,bI 5 .rem 4 2,bI 6 .eql 5 1] (cO 6 (.reg [oO 7 (.mkif 9 (.const (.string ⟨⟨[115,116,114,105,110,103,115,46,78,101,119,82,101,112,108,97,99,101,114,58,32,111,100,100,32,97,114,103,117,109,101,110,116,32,99,111,117,110,116]⟩⟩))),nO (.pan (tT 7))]) .skip)) (sR [mM 8 0,oO 9 (.app 9 1 16 (.const (.slice none 0 0)) (tT 8)),oO 10 (.build [.c (.int .u32 0),.c (.int .i32 0),.c (.int .u32 0),.c .nilIface,.nil] [(4,1,tT 9)]),bX 11 5 10,mM 2 11] .ret))
theorem is0:FnIs prog eS0 12 es0 [(.mv (.tmp 2))]:=.of (fn:=Tryz.f126) Tryz.func126 (by kernel_rfl)
def er0:Cd:=sR [oO 6 (.alloc [zI,zI,zI,zS,zI,zS,.nil,zI])] (.seq (sR [mM 11 1,cC 12 142 [],mC 13 5,bB 14 .eql 11 13] (cO 14 (sR [mM 15 0,mM 16 2,cC 17 143 [tT 15,tT 16],sT 8 6 17] .ret) .skip)) (sR [mM 18 0,mM 19 1,bI 20 .add 19 1,mM 21 2,cC 22 133 [tT 18,tT 20,tT 21],oO 7 (.alloc [zI,zI,zI,zS,zI,zS,.nil,zI]),sT 8 7 22] (.blk 0 (.loop (.blk 1 (sR [mM 23 0,cC 24 43 [tT 23],oO 8 (.alloc [zI,zS,zI,zI]),sT 4 8 24] (.seq (.seq (.dreg ⟨[(fA 25 0 8,[]),(lD 26 25,[0]),(bI 27 .neq 26 4,[0,1]),(mM 28 27,[0,1,2]),(gO 29 28 false (.call (.func 142) []),[0,1,2,3]),(xM 30 28 false 1,[0,1,2,3]),(gO 31 28 false (.ixA 5 (tT 29) (tT 30)),[0,1,2,3,4,5]),(xF 32 28 false 1 8,[0,1,2,3]),(xD 33 28 false 32,[0,1,2,3,7])],[gO 34 28 false (.call (.func 72) [tT 31,tT 33]),gO 35 28 false (.un .not (tT 34)),pT 36 28 35],[0,3]⟩) (cO 36 (sR [lA 37 8 7,sT 8 6 37] .ret) .skip)) (sR [mM 38 0,nC 39 38,fA 40 1 39,lD 41 40,bI 42 .add 41 1,nC 43 38,fA 44 1 43,sT 1 44 42] (sR [mM 45 0,mM 46 1,bI 47 .add 46 1,mM 48 2,cC 49 133 [tT 45,tT 47,tT 48],oO 9 (.alloc [zI,zI,zI,zS,zI,zS,.nil,zI]),sT 8 9 49] (.seq (.dreg ⟨[(cC 50 144 [],[]),(fA 51 1 8,[]),(lD 52 51,[1]),(cC 53 97 [tT 50,tT 52],[0,1,2]),(bI 54 .add 53 1,[0,1,2,3]),(lA 55 8 7,[]),(lA 56 8 9,[]),(oO 57 (.mkrow 24 8 [tT 55,tT 56]),[5,6]),(fA 58 3 8,[]),(lD 59 58,[8])],[oO 60 (.build [zI,zI,zI,zS,zI,zS,.nil,zI] [(0,1,iC 15),(1,1,tT 54),(6,1,tT 57),(7,1,tT 59)]),sT 8 7 60],[1,8]⟩) (sR [mM 61 1,bI 62 .eql 61 2] (cO 62 (.seq (sR [mM 63 0,cC 64 43 [tT 63],oO 10 (.alloc [zI,zS,zI,zI]),sT 4 10 64] (.seq (.dreg ⟨[(fA 65 0 10,[]),(lD 66 65,[0]),(bI 67 .eql 66 4,[0,1]),(mM 68 67,[0,1,2]),(gO 69 68 true (.call (.func 142) []),[0,1,2,3]),(xM 70 68 true 1,[0,1,2,3]),(gO 71 68 true (.ixA 5 (tT 69) (tT 70)),[0,1,2,3,4,5]),(xF 72 68 true 1 10,[0,1,2,3]),(xD 73 68 true 72,[0,1,2,3,7])],[gO 74 68 true (.call (.func 72) [tT 71,tT 73]),pF 75 68 74],[0,3]⟩) (cO 75 (.reg [mM 76 0,cC 77 40 [tT 76,iC 31]]) .skip))) (sR [lA 78 8 7,sT 8 6 78] .ret)) .skip))))))))))))
theorem iq0:FnIs prog bp0 79 er0 [(.lda 8 (.tmp 6))]:=.of (fn:=Tryz.f133) Tryz.func133 (by kernel_rfl)
def iy0:Cd:=sR [oO 0 (.alloc [.nil,.nil,.nil,.nil,.nil])] (sR [oO 1 (.mkrow 9 1 [.const (.string ⟨⟨[124,124]⟩⟩)]),oO 2 (.mkrow 9 1 [.const (.string ⟨⟨[38,38]⟩⟩)]),oO 3 (.mkrow 9 1 [.const (.string ⟨⟨[61,61]⟩⟩),.const (.string ⟨⟨[33,61]⟩⟩),.const (.string ⟨⟨[60]⟩⟩),.const (.string ⟨⟨[60,61]⟩⟩),.const (.string ⟨⟨[62]⟩⟩),.const (.string ⟨⟨[62,61]⟩⟩)]),oO 4 (.mkrow 9 1 [.const (.string ⟨⟨[43]⟩⟩),.const (.string ⟨⟨[45]⟩⟩)]),oO 5 (.mkrow 9 1 [.const (.string ⟨⟨[42]⟩⟩),.const (.string ⟨⟨[47]⟩⟩),.const (.string ⟨⟨[37]⟩⟩)]),oO 6 (.build [.nil,.nil,.nil,.nil,.nil] [(0,1,tT 1),(1,1,tT 2),(2,1,tT 3),(3,1,tT 4),(4,1,tT 5)]),sT 5 0 6] .ret)
theorem mH0:FnIs prog jX0 7 iy0 [(.lda 5 (.tmp 0))]:=.of (fn:=Tryz.f142) Tryz.func142 (by kernel_rfl)
def eP0:Cd:=sR [oO 4 (.alloc [zI,zI,zI,zS,zI,zS,.nil,zI])] (sR [mM 11 0,cC 12 43 [tT 11],oO 5 (.alloc [zI,zS,zI,zI]),sT 4 5 12] (.seq (sR [oO 13 (.mkrow 9 1 [.const (.string ⟨⟨[45]⟩⟩),.const (.string ⟨⟨[33]⟩⟩)]),lN 14 13,mC 15 0] (.blk 0 (.loop (sR [bB 16 .lss 15 14] (.seq (cO 16 .skip (.exit 0)) (.seq (.blk 1 (sR [mM 17 15,iA 18 1 13 15,lD 19 18,mM 6 17,mM 7 19] (sR [mM 20 0,mM 21 7,cC 22 39 [tT 20,iC 4,tT 21]] (cO 22 (sR [mM 23 0,mM 24 1,bI 25 .add 24 1,cC 26 83 [tT 23,tT 25]] (.seq (.dreg ⟨[(mM 27 6,[]),(oO 28 (.bin .add (iC 13) (tT 27)),[0]),(mM 29 0,[]),(mM 30 1,[]),(bI 31 .add 30 1,[3]),(cC 32 143 [tT 29,tT 31],[2,3,4]),(oO 33 (.mkrow 24 8 [tT 32]),[2,3,4,5]),(fA 34 3 5,[]),(lD 35 34,[7])],[oO 36 (.build [zI,zI,zI,zS,zI,zS,.nil,zI] [(0,1,tT 28),(6,1,tT 33),(7,1,tT 35)]),sT 8 4 36],[0,2,3,7]⟩) .ret)) .skip)))) (.reg [bI 37 .add 15 1,mM 15 37]))))))) (sR [mM 38 0,mM 39 1,cC 40 151 [tT 38,tT 39],oO 8 (.alloc [zI,zI,zI,zS,zI,zS,.nil,zI]),sT 8 8 40] (.seq (.blk 2 (.loop (.seq (sR [mM 41 0,oO 42 (.call (.func 64) [tT 41,iC 4,.const (.string ⟨⟨[91]⟩⟩)])] (cO 42 .skip (.exit 2))) (.blk 3 (sR [mM 43 0,cC 44 43 [tT 43],oO 45 (.fld 3 (tT 44)),mM 9 45] (sR [mM 46 0,nC 47 46,fA 48 1 47,lD 49 48,bI 50 .add 49 1,nC 51 46,fA 52 1 51,sT 1 52 50] (sR [mM 53 0,mM 54 1,bI 55 .add 54 1,cC 56 112 [tT 53,tT 55],oO 10 (.alloc [zI,zI,zI,zS,zI,zS,.nil,zI]),sT 8 10 56] (sR [mM 57 0,oO 58 (.call (.func 42) [tT 57,.const (.string ⟨⟨[93]⟩⟩)])] (.reg [lA 59 8 8,lA 60 8 10,oO 61 (.mkrow 24 8 [tT 59,tT 60]),mM 62 9,oO 63 (.build [zI,zI,zI,zS,zI,zS,.nil,zI] [(0,1,iC 12),(6,1,tT 61),(7,1,tT 62)]),sT 8 8 63]))))))))) (sR [lA 64 8 8,sT 8 4 64] .ret)))))
theorem iG0:FnIs prog bG0 65 eP0 [(.lda 8 (.tmp 4))]:=.of (fn:=Tryz.f143) Tryz.func143 (by kernel_rfl)
def gF0:Cd:=sR [oO 0 (.mv (.const (.slice none 0 0)))] (sR [cC 2 142 [],oO 1 (.alloc [.nil,.nil,.nil,.nil,.nil]),sT 5 1 2] (sR [oO 3 (.slA 5 1 (tT 1)),cC 4 152 [tT 3],mM 0 4] .ret))
theorem kJ0:FnIs prog hw0 5 gF0 [(.mv (.tmp 0))]:=.of (fn:=Tryz.f144) Tryz.func144 (by kernel_rfl)
def du0:Cd:=sR [oO 2 (.mv (.const .nilIface))] (sR [mM 15 0,nC 16 15,fA 17 4 16,lD 18 17,mM 3 18] (.seq (sR [mM 19 3,lN 20 19,bI 21 .eql 20 2,mM 22 21,xM 23 22 true 3,gO 24 22 true (.ia 1 (tT 23) (iC 0)),xD 25 22 true 24,gO 26 22 true (.lenS (tT 25)),xI 27 22 true .gtr 26 1,pF 28 22 27] (cO 28 (.seq (.dreg ⟨[(mM 29 3,[]),(oO 30 (.ia 1 (tT 29) (iC 0)),[0]),(lD 31 30,[0,1]),(mM 32 3,[]),(oO 33 (.ia 1 (tT 32) (iC 1)),[3]),(lD 34 33,[3,4])],[cC 35 157 [tT 31,tT 34],oO 36 (.mkif 200 (tT 35)),mM 2 36],[0,3]⟩) .ret) .skip)) (sR [mB 4 true] (.seq (sR [mC 5 0] (.blk 0 (.loop (.seq (sR [mM 37 5,mM 38 3,lN 39 38,bB 40 .lss 37 39] (cO 40 .skip (.exit 0))) (.seq (.blk 1 (.seq (sR [mM 43 3,mM 44 5,iA 45 1 43 44,lD 46 45,lS 47 46,bI 48 .neq 47 1] (cO 48 (sR [mM 49 3,cC 50 158 [tT 49],oO 51 (.mkif 202 (tT 50)),mM 2 51] .ret) .skip)) (sR [mM 52 3,mM 53 5,bI 54 .add 53 1,iA 55 1 52 54,lD 56 55,lS 57 56,bI 58 .neq 57 1] (cO 58 (.reg [mB 4 false]) .skip)))) (.reg [mM 41 5,bI 42 .add 41 2,mM 5 42])))))) (.seq (sR [mM 59 4] (cO 59 (sR [oO 60 (.build [.c (.int .u8 0),.c (.int .u8 0),.c (.int .u8 0),.c (.int .u8 0),.c (.int .u8 0),.c (.int .u8 0),.c (.int .u8 0),.c (.int .u8 0),.c (.int .u8 0),.c (.int .u8 0),.c (.int .u8 0),.c (.int .u8 0),.c (.int .u8 0),.c (.int .u8 0),.c (.int .u8 0),.c (.int .u8 0),.c (.int .u8 0),.c (.int .u8 0),.c (.int .u8 0),.c (.int .u8 0),.c (.int .u8 0),.c (.int .u8 0),.c (.int .u8 0),.c (.int .u8 0),.c (.int .u8 0),.c (.int .u8 0),.c (.int .u8 0),.c (.int .u8 0),.c (.int .u8 0),.c (.int .u8 0),.c (.int .u8 0),.c (.int .u8 0),.c (.int .u8 0),.c (.int .u8 0),.c (.int .u8 0),.c (.int .u8 0),.c (.int .u8 0),.c (.int .u8 0),.c (.int .u8 0),.c (.int .u8 0),.c (.int .u8 0),.c (.int .u8 0),.c (.int .u8 0),.c (.int .u8 0),.c (.int .u8 0),.c (.int .u8 0),.c (.int .u8 0),.c (.int .u8 0),.c (.int .u8 0),.c (.int .u8 0),.c (.int .u8 0),.c (.int .u8 0),.c (.int .u8 0),.c (.int .u8 0),.c (.int .u8 0),.c (.int .u8 0),.c (.int .u8 0),.c (.int .u8 0),.c (.int .u8 0),.c (.int .u8 0),.c (.int .u8 0),.c (.int .u8 0),.c (.int .u8 0),.c (.int .u8 0),.c (.int .u8 0),.c (.int .u8 0),.c (.int .u8 0),.c (.int .u8 0),.c (.int .u8 0),.c (.int .u8 0),.c (.int .u8 0),.c (.int .u8 0),.c (.int .u8 0),.c (.int .u8 0),.c (.int .u8 0),.c (.int .u8 0),.c (.int .u8 0),.c (.int .u8 0),.c (.int .u8 0),.c (.int .u8 0),.c (.int .u8 0),.c (.int .u8 0),.c (.int .u8 0),.c (.int .u8 0),.c (.int .u8 0),.c (.int .u8 0),.c (.int .u8 0),.c (.int .u8 0),.c (.int .u8 0),.c (.int .u8 0),.c (.int .u8 0),.c (.int .u8 0),.c (.int .u8 0),.c (.int .u8 0),.c (.int .u8 0),.c (.int .u8 0),.c (.int .u8 0),.c (.int .u8 0),.c (.int .u8 0),.c (.int .u8 0),.c (.int .u8 0),.c (.int .u8 0),.c (.int .u8 0),.c (.int .u8 0),.c (.int .u8 0),.c (.int .u8 0),.c (.int .u8 0),.c (.int .u8 0),.c (.int .u8 0),.c (.int .u8 0),.c (.int .u8 0),.c (.int .u8 0),.c (.int .u8 0),.c (.int .u8 0),.c (.int .u8 0),.c (.int .u8 0),.c (.int .u8 0),.c (.int .u8 0),.c (.int .u8 0),.c (.int .u8 0),.c (.int .u8 0),.c (.int .u8 0),.c (.int .u8 0),.c (.int .u8 0),.c (.int .u8 0),.c (.int .u8 0),.c (.int .u8 0),.c (.int .u8 0),.c (.int .u8 0),.c (.int .u8 0),.c (.int .u8 0),.c (.int .u8 0),.c (.int .u8 0),.c (.int .u8 0),.c (.int .u8 0),.c (.int .u8 0),.c (.int .u8 0),.c (.int .u8 0),.c (.int .u8 0),.c (.int .u8 0),.c (.int .u8 0),.c (.int .u8 0),.c (.int .u8 0),.c (.int .u8 0),.c (.int .u8 0),.c (.int .u8 0),.c (.int .u8 0),.c (.int .u8 0),.c (.int .u8 0),.c (.int .u8 0),.c (.int .u8 0),.c (.int .u8 0),.c (.int .u8 0),.c (.int .u8 0),.c (.int .u8 0),.c (.int .u8 0),.c (.int .u8 0),.c (.int .u8 0),.c (.int .u8 0),.c (.int .u8 0),.c (.int .u8 0),.c (.int .u8 0),.c (.int .u8 0),.c (.int .u8 0),.c (.int .u8 0),.c (.int .u8 0),.c (.int .u8 0),.c (.int .u8 0),.c (.int .u8 0),.c (.int .u8 0),.c (.int .u8 0),.c (.int .u8 0),.c (.int .u8 0),.c (.int .u8 0),.c (.int .u8 0),.c (.int .u8 0),.c (.int .u8 0),.c (.int .u8 0),.c (.int .u8 0),.c (.int .u8 0),.c (.int .u8 0),.c (.int .u8 0),.c (.int .u8 0),.c (.int .u8 0),.c (.int .u8 0),.c (.int .u8 0),.c (.int .u8 0),.c (.int .u8 0),.c (.int .u8 0),.c (.int .u8 0),.c (.int .u8 0),.c (.int .u8 0),.c (.int .u8 0),.c (.int .u8 0),.c (.int .u8 0),.c (.int .u8 0),.c (.int .u8 0),.c (.int .u8 0),.c (.int .u8 0),.c (.int .u8 0),.c (.int .u8 0),.c (.int .u8 0),.c (.int .u8 0),.c (.int .u8 0),.c (.int .u8 0),.c (.int .u8 0),.c (.int .u8 0),.c (.int .u8 0),.c (.int .u8 0),.c (.int .u8 0),.c (.int .u8 0),.c (.int .u8 0),.c (.int .u8 0),.c (.int .u8 0),.c (.int .u8 0),.c (.int .u8 0),.c (.int .u8 0),.c (.int .u8 0),.c (.int .u8 0),.c (.int .u8 0),.c (.int .u8 0),.c (.int .u8 0),.c (.int .u8 0),.c (.int .u8 0),.c (.int .u8 0),.c (.int .u8 0),.c (.int .u8 0),.c (.int .u8 0),.c (.int .u8 0),.c (.int .u8 0),.c (.int .u8 0),.c (.int .u8 0),.c (.int .u8 0),.c (.int .u8 0),.c (.int .u8 0),.c (.int .u8 0),.c (.int .u8 0),.c (.int .u8 0),.c (.int .u8 0),.c (.int .u8 0),.c (.int .u8 0),.c (.int .u8 0),.c (.int .u8 0),.c (.int .u8 0),.c (.int .u8 0),.c (.int .u8 0),.c (.int .u8 0),.c (.int .u8 0),.c (.int .u8 0),.c (.int .u8 0),.c (.int .u8 0),.c (.int .u8 0),.c (.int .u8 0),.c (.int .u8 0),.c (.int .u8 0),.c (.int .u8 0)] []),oO 6 (.alloc [.c (.int .u8 0),.c (.int .u8 0),.c (.int .u8 0),.c (.int .u8 0),.c (.int .u8 0),.c (.int .u8 0),.c (.int .u8 0),.c (.int .u8 0),.c (.int .u8 0),.c (.int .u8 0),.c (.int .u8 0),.c (.int .u8 0),.c (.int .u8 0),.c (.int .u8 0),.c (.int .u8 0),.c (.int .u8 0),.c (.int .u8 0),.c (.int .u8 0),.c (.int .u8 0),.c (.int .u8 0),.c (.int .u8 0),.c (.int .u8 0),.c (.int .u8 0),.c (.int .u8 0),.c (.int .u8 0),.c (.int .u8 0),.c (.int .u8 0),.c (.int .u8 0),.c (.int .u8 0),.c (.int .u8 0),.c (.int .u8 0),.c (.int .u8 0),.c (.int .u8 0),.c (.int .u8 0),.c (.int .u8 0),.c (.int .u8 0),.c (.int .u8 0),.c (.int .u8 0),.c (.int .u8 0),.c (.int .u8 0),.c (.int .u8 0),.c (.int .u8 0),.c (.int .u8 0),.c (.int .u8 0),.c (.int .u8 0),.c (.int .u8 0),.c (.int .u8 0),.c (.int .u8 0),.c (.int .u8 0),.c (.int .u8 0),.c (.int .u8 0),.c (.int .u8 0),.c (.int .u8 0),.c (.int .u8 0),.c (.int .u8 0),.c (.int .u8 0),.c (.int .u8 0),.c (.int .u8 0),.c (.int .u8 0),.c (.int .u8 0),.c (.int .u8 0),.c (.int .u8 0),.c (.int .u8 0),.c (.int .u8 0),.c (.int .u8 0),.c (.int .u8 0),.c (.int .u8 0),.c (.int .u8 0),.c (.int .u8 0),.c (.int .u8 0),.c (.int .u8 0),.c (.int .u8 0),.c (.int .u8 0),.c (.int .u8 0),.c (.int .u8 0),.c (.int .u8 0),.c (.int .u8 0),.c (.int .u8 0),.c (.int .u8 0),.c (.int .u8 0),.c (.int .u8 0),.c (.int .u8 0),.c (.int .u8 0),.c (.int .u8 0),.c (.int .u8 0),.c (.int .u8 0),.c (.int .u8 0),.c (.int .u8 0),.c (.int .u8 0),.c (.int .u8 0),.c (.int .u8 0),.c (.int .u8 0),.c (.int .u8 0),.c (.int .u8 0),.c (.int .u8 0),.c (.int .u8 0),.c (.int .u8 0),.c (.int .u8 0),.c (.int .u8 0),.c (.int .u8 0),.c (.int .u8 0),.c (.int .u8 0),.c (.int .u8 0),.c (.int .u8 0),.c (.int .u8 0),.c (.int .u8 0),.c (.int .u8 0),.c (.int .u8 0),.c (.int .u8 0),.c (.int .u8 0),.c (.int .u8 0),.c (.int .u8 0),.c (.int .u8 0),.c (.int .u8 0),.c (.int .u8 0),.c (.int .u8 0),.c (.int .u8 0),.c (.int .u8 0),.c (.int .u8 0),.c (.int .u8 0),.c (.int .u8 0),.c (.int .u8 0),.c (.int .u8 0),.c (.int .u8 0),.c (.int .u8 0),.c (.int .u8 0),.c (.int .u8 0),.c (.int .u8 0),.c (.int .u8 0),.c (.int .u8 0),.c (.int .u8 0),.c (.int .u8 0),.c (.int .u8 0),.c (.int .u8 0),.c (.int .u8 0),.c (.int .u8 0),.c (.int .u8 0),.c (.int .u8 0),.c (.int .u8 0),.c (.int .u8 0),.c (.int .u8 0),.c (.int .u8 0),.c (.int .u8 0),.c (.int .u8 0),.c (.int .u8 0),.c (.int .u8 0),.c (.int .u8 0),.c (.int .u8 0),.c (.int .u8 0),.c (.int .u8 0),.c (.int .u8 0),.c (.int .u8 0),.c (.int .u8 0),.c (.int .u8 0),.c (.int .u8 0),.c (.int .u8 0),.c (.int .u8 0),.c (.int .u8 0),.c (.int .u8 0),.c (.int .u8 0),.c (.int .u8 0),.c (.int .u8 0),.c (.int .u8 0),.c (.int .u8 0),.c (.int .u8 0),.c (.int .u8 0),.c (.int .u8 0),.c (.int .u8 0),.c (.int .u8 0),.c (.int .u8 0),.c (.int .u8 0),.c (.int .u8 0),.c (.int .u8 0),.c (.int .u8 0),.c (.int .u8 0),.c (.int .u8 0),.c (.int .u8 0),.c (.int .u8 0),.c (.int .u8 0),.c (.int .u8 0),.c (.int .u8 0),.c (.int .u8 0),.c (.int .u8 0),.c (.int .u8 0),.c (.int .u8 0),.c (.int .u8 0),.c (.int .u8 0),.c (.int .u8 0),.c (.int .u8 0),.c (.int .u8 0),.c (.int .u8 0),.c (.int .u8 0),.c (.int .u8 0),.c (.int .u8 0),.c (.int .u8 0),.c (.int .u8 0),.c (.int .u8 0),.c (.int .u8 0),.c (.int .u8 0),.c (.int .u8 0),.c (.int .u8 0),.c (.int .u8 0),.c (.int .u8 0),.c (.int .u8 0),.c (.int .u8 0),.c (.int .u8 0),.c (.int .u8 0),.c (.int .u8 0),.c (.int .u8 0),.c (.int .u8 0),.c (.int .u8 0),.c (.int .u8 0),.c (.int .u8 0),.c (.int .u8 0),.c (.int .u8 0),.c (.int .u8 0),.c (.int .u8 0),.c (.int .u8 0),.c (.int .u8 0),.c (.int .u8 0),.c (.int .u8 0),.c (.int .u8 0),.c (.int .u8 0),.c (.int .u8 0),.c (.int .u8 0),.c (.int .u8 0),.c (.int .u8 0),.c (.int .u8 0),.c (.int .u8 0),.c (.int .u8 0),.c (.int .u8 0),.c (.int .u8 0),.c (.int .u8 0),.c (.int .u8 0),.c (.int .u8 0),.c (.int .u8 0),.c (.int .u8 0),.c (.int .u8 0),.c (.int .u8 0),.c (.int .u8 0),.c (.int .u8 0),.c (.int .u8 0),.c (.int .u8 0),.c (.int .u8 0),.c (.int .u8 0),.c (.int .u8 0),.c (.int .u8 0),.c (.int .u8 0),.c (.int .u8 0),.c (.int .u8 0),.c (.int .u8 0),.c (.int .u8 0),.c (.int .u8 0),.c (.int .u8 0),.c (.int .u8 0),.c (.int .u8 0)]),sT 256 6 60] (.seq (sR [mC 61 0] (.blk 2 (.loop (sR [bI 62 .lss 61 256] (.seq (cO 62 .skip (.exit 2)) (.seq (.blk 3 (sR [mM 63 61,mM 7 63] (.reg [mM 64 7,mM 65 7,oO 66 (.conv .u8 (tT 65)),oO 67 (.iaA 256 1 (tT 6) (tT 64)),sT 1 67 66]))) (.reg [bI 68 .add 61 1,mM 61 68]))))))) (.seq (sR [mM 69 3,lN 70 69,bI 71 .sub 70 2,mM 8 71] (.blk 4 (.loop (.seq (sR [mM 72 8,bI 73 .geq 72 0] (cO 73 .skip (.exit 4))) (.seq (.blk 5 (sR [mM 76 3,mM 77 8,iA 78 1 76 77,lD 79 78,oO 80 (.ixS (tT 79) (iC 0)),mM 9 80] (sR [mM 81 3,mM 82 8,bI 83 .add 82 1,iA 84 1 81 83,lD 85 84,oO 86 (.ixS (tT 85) (iC 0)),mM 10 86] (.reg [mM 87 9,mM 88 10,oO 89 (.iaA 256 1 (tT 6) (tT 87)),sT 1 89 88])))) (.reg [mM 74 8,bI 75 .sub 74 2,mM 8 75])))))) (sR [oO 90 (.mkif 205 (tT 6)),mM 2 90] .ret)))) .skip)) (sR [mM 91 3,lN 92 91,bI 93 .quo 92 2,oO 94 (.mks 9 1 16 [zS] (iC 0) (tT 93)),oO 95 (.build [.nil,.nil,.nil,.nil,.nil,.nil,.nil,.nil,.nil,.nil,.nil,.nil,.nil,.nil,.nil,.nil,.nil,.nil,.nil,.nil,.nil,.nil,.nil,.nil,.nil,.nil,.nil,.nil,.nil,.nil,.nil,.nil,.nil,.nil,.nil,.nil,.nil,.nil,.nil,.nil,.nil,.nil,.nil,.nil,.nil,.nil,.nil,.nil,.nil,.nil,.nil,.nil,.nil,.nil,.nil,.nil,.nil,.nil,.nil,.nil,.nil,.nil,.nil,.nil,.nil,.nil,.nil,.nil,.nil,.nil,.nil,.nil,.nil,.nil,.nil,.nil,.nil,.nil,.nil,.nil,.nil,.nil,.nil,.nil,.nil,.nil,.nil,.nil,.nil,.nil,.nil,.nil,.nil,.nil,.nil,.nil,.nil,.nil,.nil,.nil,.nil,.nil,.nil,.nil,.nil,.nil,.nil,.nil,.nil,.nil,.nil,.nil,.nil,.nil,.nil,.nil,.nil,.nil,.nil,.nil,.nil,.nil,.nil,.nil,.nil,.nil,.nil,.nil,.nil,.nil,.nil,.nil,.nil,.nil,.nil,.nil,.nil,.nil,.nil,.nil,.nil,.nil,.nil,.nil,.nil,.nil,.nil,.nil,.nil,.nil,.nil,.nil,.nil,.nil,.nil,.nil,.nil,.nil,.nil,.nil,.nil,.nil,.nil,.nil,.nil,.nil,.nil,.nil,.nil,.nil,.nil,.nil,.nil,.nil,.nil,.nil,.nil,.nil,.nil,.nil,.nil,.nil,.nil,.nil,.nil,.nil,.nil,.nil,.nil,.nil,.nil,.nil,.nil,.nil,.nil,.nil,.nil,.nil,.nil,.nil,.nil,.nil,.nil,.nil,.nil,.nil,.nil,.nil,.nil,.nil,.nil,.nil,.nil,.nil,.nil,.nil,.nil,.nil,.nil,.nil,.nil,.nil,.nil,.nil,.nil,.nil,.nil,.nil,.nil,.nil,.nil,.nil,.nil,.nil,.nil,.nil,.nil,.nil,.nil,.nil,.nil,.nil,.nil,.nil,.nil,.nil,.nil,.nil,.nil,.nil,.nil,.nil,.nil,.nil,.nil,.nil,.nil] [(256,1,tT 94)]),oO 11 (.alloc [.nil,.nil,.nil,.nil,.nil,.nil,.nil,.nil,.nil,.nil,.nil,.nil,.nil,.nil,.nil,.nil,.nil,.nil,.nil,.nil,.nil,.nil,.nil,.nil,.nil,.nil,.nil,.nil,.nil,.nil,.nil,.nil,.nil,.nil,.nil,.nil,.nil,.nil,.nil,.nil,.nil,.nil,.nil,.nil,.nil,.nil,.nil,.nil,.nil,.nil,.nil,.nil,.nil,.nil,.nil,.nil,.nil,.nil,.nil,.nil,.nil,.nil,.nil,.nil,.nil,.nil,.nil,.nil,.nil,.nil,.nil,.nil,.nil,.nil,.nil,.nil,.nil,.nil,.nil,.nil,.nil,.nil,.nil,.nil,.nil,.nil,.nil,.nil,.nil,.nil,.nil,.nil,.nil,.nil,.nil,.nil,.nil,.nil,.nil,.nil,.nil,.nil,.nil,.nil,.nil,.nil,.nil,.nil,.nil,.nil,.nil,.nil,.nil,.nil,.nil,.nil,.nil,.nil,.nil,.nil,.nil,.nil,.nil,.nil,.nil,.nil,.nil,.nil,.nil,.nil,.nil,.nil,.nil,.nil,.nil,.nil,.nil,.nil,.nil,.nil,.nil,.nil,.nil,.nil,.nil,.nil,.nil,.nil,.nil,.nil,.nil,.nil,.nil,.nil,.nil,.nil,.nil,.nil,.nil,.nil,.nil,.nil,.nil,.nil,.nil,.nil,.nil,.nil,.nil,.nil,.nil,.nil,.nil,.nil,.nil,.nil,.nil,.nil,.nil,.nil,.nil,.nil,.nil,.nil,.nil,.nil,.nil,.nil,.nil,.nil,.nil,.nil,.nil,.nil,.nil,.nil,.nil,.nil,.nil,.nil,.nil,.nil,.nil,.nil,.nil,.nil,.nil,.nil,.nil,.nil,.nil,.nil,.nil,.nil,.nil,.nil,.nil,.nil,.nil,.nil,.nil,.nil,.nil,.nil,.nil,.nil,.nil,.nil,.nil,.nil,.nil,.nil,.nil,.nil,.nil,.nil,.nil,.nil,.nil,.nil,.nil,.nil,.nil,.nil,.nil,.nil,.nil,.nil,.nil,.nil,.nil,.nil,.nil,.nil,.nil,.nil,.nil]),sT 257 11 95] (.seq (sR [mM 96 3,lN 97 96,bI 98 .sub 97 2,mM 12 98] (.blk 6 (.loop (.seq (sR [mM 99 12,bI 100 .geq 99 0] (cO 100 .skip (.exit 6))) (.seq (.blk 7 (sR [mM 103 3,mM 104 12,iA 105 1 103 104,lD 106 105,oO 107 (.ixS (tT 106) (iC 0)),mM 13 107] (sR [mM 108 3,mM 109 12,bI 110 .add 109 1,iA 111 1 108 110,lD 112 111,mM 14 112] (.seq (sR [mM 113 13,fA 114 0 11,oO 115 (.iaA 256 1 (tT 114) (tT 113)),lD 116 115,oO 117 (.isnl false (tT 116))] (cO 117 (.reg [fA 118 256 11,lD 119 118,mM 120 13,oO 121 (.mkrow 5 1 [tT 120]),oO 122 (.cvBS (tT 121)),oO 123 (.mkrow 9 1 [tT 122]),oO 124 (.app 9 1 16 (tT 119) (tT 123)),fA 125 256 11,sT 1 125 124]) .skip)) (.reg [mM 126 13,mM 127 14,oO 128 (.cvSB (tT 127)),fA 129 0 11,oO 130 (.iaA 256 1 (tT 129) (tT 126)),sT 1 130 128]))))) (.reg [mM 101 12,bI 102 .sub 101 2,mM 12 102])))))) (sR [oO 131 (.mkif 209 (tT 11)),mM 2 131] .ret))))))))
theorem g30:FnIs prog dL0 132 du0 [(.mv (.tmp 2))]:=.of (fn:=Tryz.f150) Tryz.func150 (by kernel_rfl)
def dV0:Cd:=sR [bX 2 1 0,bX 3 1 1,oO 4 (.alloc [zI,zI,zI,zS,zI,zS,.nil,zI])] (sR [lD 8 2,cC 9 43 [tT 8],oO 5 (.alloc [zI,zS,zI,zI]),sT 4 5 9] (.seq (.blk 0 (sR [fA 11 0 5,lD 12 11,bI 13 .eql 12 2,mM 10 13] (cO 10 (sR [lD 14 2,nC 15 14,fA 16 1 15,lD 17 16,bI 18 .add 17 1,nC 19 14,fA 20 1 19,sT 1 20 18] (sR [fA 21 2 5,lD 22 21,fA 23 3 5,lD 24 23,oO 25 (.build [zI,zI,zI,zS,zI,zS,.nil,zI] [(0,1,iC 1),(2,1,tT 22),(7,1,tT 24)]),sT 8 4 25] .ret)) (sR [fA 27 0 5,lD 28 27,bI 29 .eql 28 3,mM 26 29] (cO 26 (sR [lD 30 2,nC 31 30,fA 32 1 31,lD 33 32,bI 34 .add 33 1,nC 35 30,fA 36 1 35,sT 1 36 34] (sR [fA 37 1 5,lD 38 37,fA 39 3 5,lD 40 39,oO 41 (.build [zI,zI,zI,zS,zI,zS,.nil,zI] [(0,1,iC 3),(3,1,tT 38),(7,1,tT 40)]),sT 8 4 41] .ret)) (sR [lD 43 2,oO 44 (.call (.func 39) [tT 43,iC 1,.const (.string ⟨⟨[116,114,117,101]⟩⟩)]),mM 42 44] (cO 42 (sR [fA 45 3 5,lD 46 45,oO 47 (.build [zI,zI,zI,zS,zI,zS,.nil,zI] [(0,1,iC 2),(2,1,iC 1),(7,1,tT 46)]),sT 8 4 47] .ret) (sR [lD 49 2,oO 50 (.call (.func 39) [tT 49,iC 1,.const (.string ⟨⟨[102,97,108,115,101]⟩⟩)]),mM 48 50] (cO 48 (sR [fA 51 3 5,lD 52 51,oO 53 (.build [zI,zI,zI,zS,zI,zS,.nil,zI] [(0,1,iC 2),(7,1,tT 52)]),sT 8 4 53] .ret) (sR [lD 55 2,oO 56 (.call (.func 39) [tT 55,iC 4,.const (.string ⟨⟨[40]⟩⟩)]),mM 54 56] (cO 54 (sR [lD 57 2,lD 58 3,bI 59 .add 58 1,cC 60 112 [tT 57,tT 59],oO 6 (.alloc [zI,zI,zI,zS,zI,zS,.nil,zI]),sT 8 6 60] (sR [lD 61 2,oO 62 (.call (.func 42) [tT 61,.const (.string ⟨⟨[41]⟩⟩)])] (sR [lA 63 8 6,sT 8 4 63] .ret))) .skip))))))))))) (sR [lD 64 2,cC 65 41 [tT 64,iC 1]] (.seq (sR [lD 66 2,oO 67 (.call (.func 39) [tT 66,iC 4,.const (.string ⟨⟨[40]⟩⟩)]),oO 68 (.un .not (tT 67))] (cO 68 (sR [fA 69 1 5,lD 70 69,fA 71 3 5,lD 72 71,oO 73 (.build [zI,zI,zI,zS,zI,zS,.nil,zI] [(0,1,iC 6),(3,1,tT 70),(7,1,tT 72)]),sT 8 4 73] .ret) .skip)) (sR [fA 74 1 5,lD 75 74,fA 76 3 5,lD 77 76,oO 78 (.build [zI,zI,zI,zS,zI,zS,.nil,zI] [(0,1,iC 7),(3,1,tT 75),(7,1,tT 77)]),oO 7 (.alloc [zI,zI,zI,zS,zI,zS,.nil,zI]),sT 8 7 78] (sR [lD 79 2,oO 80 (.mkfn 159 [tT 7,tT 2,tT 3]),oO 81 (.call (.func 66) [tT 79,.const (.string ⟨⟨[41]⟩⟩),tT 80])] (sR [lA 82 8 7,sT 8 4 82] .ret)))))))
theorem h30:FnIs prog et0 83 dV0 [(.lda 8 (.tmp 4))]:=.of (fn:=Tryz.f151) Tryz.func151 (by kernel_rfl)
def ct0:Cd:=sR [oO 2 (.mv (.const (.slice none 0 0)))] (sR [mC 3 0] (.seq (sR [mM 9 0,lN 10 9,mC 11 0] (.blk 0 (.loop (sR [bB 12 .lss 11 10] (.seq (cO 12 .skip (.exit 0)) (.seq (.blk 1 (sR [iA 13 1 9 11,lD 14 13,mM 5 14] (sR [mM 15 3,mM 16 5,lN 17 16,bB 18 .add 15 17,mM 3 18] (sR [mM 19 3,bI 20 .lss 19 0] (cO 20 (.reg [oO 21 (.mkif 9 (.const (.string ⟨⟨[108,101,110,32,111,117,116,32,111,102,32,114,97,110,103,101]⟩⟩))),nO (.pan (tT 21))]) .skip))))) (.reg [bI 22 .add 11 1,mM 11 22]))))))) (sR [mM 23 3,cC 24 160 [.const (.slice none 0 0),tT 23],mM 6 24] (.seq (sR [mM 25 0,lN 26 25,mC 27 0] (.blk 2 (.loop (sR [bB 28 .lss 27 26] (.seq (cO 28 .skip (.exit 2)) (.seq (.blk 3 (sR [iA 29 1 25 27,lD 30 29,mM 8 30] (.reg [mM 31 6,mM 32 8,oO 33 (.app 9 1 16 (tT 31) (tT 32)),mM 6 33]))) (.reg [bI 34 .add 27 1,mM 27 34]))))))) (sR [mM 35 6,mM 2 35] .ret)))))
theorem eE0:FnIs prog cz0 36 ct0 [(.mv (.tmp 2))]:=.of (fn:=Tryz.f152) Tryz.func152 (by kernel_rfl)
def dr0:Cd:=.dreg ⟨[(fA 3 6 0,[]),(lD 4 3,[0]),(lD 5 1,[]),(lD 6 2,[]),(bI 7 .add 6 1,[3]),(cC 8 112 [tT 5,tT 7],[2,3,4]),(lN 9 4,[0,1]),(oO 10 (.mkrow 24 8 [.const (.agg ⟨[.int .i64 0,.int .i64 0,.int .i64 0,.string ⟨⟨[]⟩⟩,.int .i64 0,.string ⟨⟨[]⟩⟩,.slice none 0 0,.int .i64 0]⟩)]),[]),(oO 11 (.app 24 8 96 (tT 4) (tT 10)),[0,1,2,3,4,5,6,7]),(iA 12 8 11 9,[0,1,2,3,4,5,6,7,8]),(sT 8 12 8,[0,1,2,3,4,5,6,7,8,9]),(fA 13 6 0,[0,1,2,3,4,5,6,7,8]),(sT 1 13 11,[0,1,2,3,4,5,6,7,8,11])],[],[0,11]⟩
theorem gZ0:FnIs prog bb0 14 dr0 []:=.of (fn:=Tryz.f159) Tryz.func159 (by kernel_rfl)
def cI0:Cd:=sR [oO 4 (.mv (.const (.slice none 0 0)))] (.seq (sR [mM 5 1,bI 6 .lss 5 0] (cO 6 (.reg [oO 7 (.mkif 9 (.const (.string ⟨⟨[99,97,110,110,111,116,32,98,101,32,110,101,103,97,116,105,118,101]⟩⟩))),nO (.pan (tT 7))]) .skip)) (.seq (sR [mM 8 1,mM 9 0,oO 10 (.capn (tT 9)),mM 11 0,lN 12 11,bB 13 .sub 10 12,bB 14 .sub 8 13,mM 1 14] (sR [mM 15 1,bI 16 .gtr 15 0] (cO 16 (.reg [mM 17 0,mM 18 0,oO 19 (.capn (tT 18)),oO 20 (.slL 1 (tT 17) none (some (tT 19))),mM 21 1,oO 22 (.appz 9 1 16 [zS] (tT 20) (tT 21)),mM 23 0,lN 24 23,oO 25 (.slL 1 (tT 22) none (some (tT 24))),mM 0 25]) .skip))) (sR [mM 26 0,mM 4 26] .ret)))
theorem ff0:FnIs prog cW0 27 cI0 [(.mv (.tmp 4))]:=.of (fn:=Tryz.f160) Tryz.func160 (by kernel_rfl)
def aZ0:Cd:=sR [oO 4 (.mv (.const (.string ⟨⟨[]⟩⟩)))] (sR [mM 16 1,lS 17 16,mM 5 17] (sR [mB 6 false] (.seq (sR [mM 18 0,nC 19 18,fA 20 256 19,lD 21 20,lN 22 21,bI 23 .mul 22 8,mM 24 1,lS 25 24,bB 26 .leq 23 25] (cO 26 (sR [mM 27 0,nC 28 27,fA 29 256 28,lD 30 29,lN 31 30,mC 32 0] (.blk 0 (.loop (sR [bB 33 .lss 32 31] (.seq (cO 33 .skip (.exit 0)) (.seq (.blk 1 (sR [iA 34 1 30 32,lD 35 34,mM 8 35] (sR [mM 36 1,mM 37 8,cC 38 210 [tT 36,tT 37],mM 9 38] (sR [mM 39 9,bI 40 .neq 39 0] (cO 40 (.seq (.dreg ⟨[(mM 41 5,[]),(mM 42 9,[]),(mM 43 0,[]),(mM 44 8,[]),(oO 45 (.ixS (tT 44) (iC 0)),[3]),(nC 46 43,[2]),(fA 47 0 46,[2,5]),(oO 48 (.iaA 256 1 (tT 47) (tT 45)),[2,3,4,5,6]),(lD 49 48,[2,3,4,5,6,7]),(lN 50 49,[2,3,4,5,6,7,8]),(bI 51 .sub 50 1,[2,3,4,5,6,7,8,9]),(bB 52 .mul 42 51,[1,2,3,4,5,6,7,8,9,10])],[bB 53 .add 41 52,mM 5 53],[0,1,2,3,5,6]⟩) (.reg [mB 6 true])) .skip))))) (.reg [bI 54 .add 32 1,mM 32 54]))))))) (sR [mC 10 0] (.blk 2 (.loop (.seq (sR [mM 55 10,mM 56 1,lS 57 56,bB 58 .lss 55 57] (cO 58 .skip (.exit 2))) (.seq (.blk 3 (sR [mM 61 1,mM 62 10,oO 63 (.ixS (tT 61) (tT 62)),mM 11 63] (sR [mM 64 0,mM 65 11,nC 66 64,fA 67 0 66,oO 68 (.iaA 256 1 (tT 67) (tT 65)),lD 69 68,oO 70 (.isnl true (tT 69))] (cO 70 (sR [mM 71 5,mM 72 0,mM 73 11,nC 74 72,fA 75 0 74,oO 76 (.iaA 256 1 (tT 75) (tT 73)),lD 77 76,lN 78 77,bI 79 .sub 78 1,bB 80 .add 71 79,mM 5 80] (.reg [mB 6 true])) .skip)))) (.reg [mM 59 10,bI 60 .add 59 1,mM 10 60])))))))) (.seq (sR [mM 81 6,oO 82 (.un .not (tT 81))] (cO 82 (sR [mM 83 1,mM 4 83] .ret) .skip)) (sR [mM 84 5,oO 85 (.mks 5 1 1 [.c (.int .u8 0)] (tT 84) (tT 84)),mM 12 85] (sR [mC 13 0] (.seq (sR [mC 14 0] (.blk 4 (.loop (.seq (sR [mM 86 14,mM 87 1,lS 88 87,bB 89 .lss 86 88] (cO 89 .skip (.exit 4))) (.seq (.blk 5 (sR [mM 92 1,mM 93 14,oO 94 (.ixS (tT 92) (tT 93)),mM 15 94] (sR [mM 95 0,mM 96 15,nC 97 95,fA 98 0 97,oO 99 (.iaA 256 1 (tT 98) (tT 96)),lD 100 99,oO 101 (.isnl true (tT 100))] (cO 101 (.dreg ⟨[(mM 102 13,[]),(mM 103 12,[]),(mM 104 13,[]),(oO 105 (.slL 1 (tT 103) (some (tT 104)) none),[1,2]),(mM 106 0,[]),(mM 107 15,[]),(nC 108 106,[4]),(fA 109 0 108,[4,6]),(oO 110 (.iaA 256 1 (tT 109) (tT 107)),[4,5,6,7]),(lD 111 110,[4,5,6,7,8]),(oO 112 (.cpy 1 (tT 105) (tT 111)),[1,2,3,4,5,6,7,8,9])],[bB 113 .add 102 112,mM 13 113],[0,1,2,4,5,6,7]⟩) (sR [mM 114 12,mM 115 13,mM 116 15,iA 117 1 114 115,sT 1 117 116] (.reg [mM 118 13,bI 119 .add 118 1,mM 13 119])))))) (.reg [mM 90 14,bI 91 .add 90 1,mM 14 91])))))) (sR [mM 120 12,oO 121 (.cvBS (tT 120)),mM 4 121] .ret))))))))
theorem dq0:FnIs prog bM0 122 aZ0 [(.mv (.tmp 4))]:=.of (fn:=Tryz.f208) Tryz.func208 (by kernel_rfl)
end Go.Am
end

section
namespace Go.Am
variable {P:Program} {n:Nat} {env:Env} {hp:Hp}
def bc0:Env->Nat->(V->Prop)->Prop
 | [],_,_=>False
 | (s,v) :: e,t,K=>if t=s then K v else bc0 e t K
theorem eM0 (t:Nat) (K:V->Prop):∀ env:Env,bc0 env t K=∃ v,env.lookup t=some v/\K v
 | []=>by simp [bc0]
 | (s,v) :: e=>by
  simp only [bc0,List.lookup_cons]
  by_cases h:t=s
  ·subst h; simp
  ·have:(t == s)=false:=by simpa using h
   rw [if_neg h,this,eM0 t K e]
def evK (env:Env):Operand->(V->Prop)->Prop
 | .tmp t,K=>bc0 env t K
 | .const c,K=>K (ofConst c)
 | .func f,K=>K (.fn f [])
 | .global _,_=>False
theorem bU0 (x:Operand) (K:V->Prop):evK env x K=∃ v,Env.ev env x=some v/\K v:=by
 cases x <;> simp [evK,Env.ev,eM0]
def evsK (env:Env):List Operand->(List V->Prop)->Prop
 | [],K=>K []
 | x :: xs,K=>evK env x fun v=>evsK env xs fun vs=>K (v :: vs)
theorem ld0:∀ (xs:List Operand) (K:List V->Prop),evsK env xs K=∃ vs,xs.mapM (Env.ev env)=some vs/\K vs
 | [],K=>by simp [evsK]
 | x :: xs,K=>by
  simp only [evsK,bU0,ld0 xs,List.mapM_cons]
  apply propext
  constructor
  ·rintro ⟨v,h1,vs,h2,h3⟩; exact ⟨v :: vs,by simp [h1,h2],h3⟩
  ·rintro ⟨vs,h1,h2⟩
   simp only [Option.bind_eq_bind,Option.bind_eq_some_iff,Option.pure_def,Option.some.injEq] at h1
   obtain ⟨v,h1,us,h3,rfl⟩:=h1
   exact ⟨v,h1,us,h3,h2⟩
def nthK:List V->Nat->(V->Prop)->Prop
 | [],_,_=>False
 | v :: _,0,K=>K v
 | _ :: vs,n + 1,K=>nthK vs n K
theorem iO0 (K:V->Prop):∀ (vs:List V) (n:Nat),nthK vs n K=∃ v,vs[n]?=some v/\K v
 | [],n=>by simp [nthK]
 | v :: vs,0=>by simp [nthK]
 | v :: vs,n + 1=>by simp [nthK,iO0 K vs n]
def objK:Hp->Id->(Ob->Prop)->Prop
 | [],_,_=>False
 | (i,o) :: hp,j,K=>if j=i then K o else objK hp j K
theorem h90 (j:Id) (K:Ob->Prop):∀ hp:Hp,objK hp j K=∃ o,hp.lookup j=some o/\K o
 | []=>by simp [objK]
 | (i,o) :: hp=>by
  simp only [objK,List.lookup_cons]
  by_cases h:j=i
  ·subst h; simp
  ·have:(j == i)=false:=by simpa using h
   rw [if_neg h,this,h90 j K hp]
def boxK:Ob->(List V->Prop)->Prop
 | .box cs,K=>K cs
 | _,_=>False
def rowK:Ob->(Nat->Nat->Bool->List (List V)->Prop)->Prop
 | .row ty sz own xs,K=>K ty sz own xs
 | _,_=>False
def fW0 (xs:List (List V)) (k:Nat) (K:List V->Prop):Prop:=∃ e,xs[k]?=some e/\K e
theorem ol0 (i:Id) (K:List V->Prop):(objK hp i fun o=>boxK o K)=∃ cs,hp.lookup i=some (.box cs)/\K cs:=by
 rw [h90]
 apply propext
 constructor
 ·rintro ⟨o,h1,h2⟩
  cases o with
  | box cs=>exact ⟨cs,h1,h2⟩
  | _=>exact h2.elim
 ·rintro ⟨cs,h1,h2⟩; exact ⟨_,h1,h2⟩
theorem fg0 (i:Id) (K:Nat->Nat->Bool->List (List V)->Prop):(objK hp i fun o=>rowK o K)=∃ ty sz own xs,hp.lookup i=some (.row ty sz own xs)/\K ty sz own xs:=by
 rw [h90]
 apply propext
 constructor
 ·rintro ⟨o,h1,h2⟩
  cases o with
  | row ty sz own xs=>exact ⟨ty,sz,own,xs,h1,h2⟩
  | _=>exact h2.elim
 ·rintro ⟨ty,sz,own,xs,h1,h2⟩; exact ⟨_,h1,h2⟩
def bC0:V->(Bool->Prop)->Prop
 | .c (.bool b),K=>K b
 | _,_=>False
theorem ok0 (K:Bool->Prop) (o:Option V):(∃ v,o=some v/\bC0 v K)=∃ b,o=some (.c (.bool b))/\K b:=by
 apply propext
 constructor
 ·rintro ⟨v,h1,h2⟩
  cases v with
  | c x=>cases x <;> first | exact h2.elim | exact ⟨_,h1,h2⟩
  | _=>exact h2.elim
 ·rintro ⟨b,h1,h2⟩; exact ⟨_,h1,h2⟩
def intK:V->(IntKind->Int->Prop)->Prop
 | .c (.int k n),K=>K k n
 | _,_=>False
theorem intK_eq (K:IntKind->Int->Prop) (o:Option V):(∃ v,o=some v/\intK v K)=∃ k n,o=some (.c (.int k n))/\K k n:=by
 apply propext
 constructor
 ·rintro ⟨v,h1,h2⟩
  cases v with
  | c x=>cases x <;> first | exact h2.elim | exact ⟨_,_,h1,h2⟩
  | _=>exact h2.elim
 ·rintro ⟨k,n,h1,h2⟩; exact ⟨_,h1,h2⟩
def strK:V->(ByteArray->Prop)->Prop
 | .c (.string s),K=>K s
 | _,_=>False
theorem qW0 (K:ByteArray->Prop) (o:Option V):(∃ v,o=some v/\strK v K)=∃ s,o=some (.c (.string s))/\K s:=by
 apply propext
 constructor
 ·rintro ⟨v,h1,h2⟩
  cases v with
  | c x=>cases x <;> first | exact h2.elim | exact ⟨_,h1,h2⟩
  | _=>exact h2.elim
 ·rintro ⟨s,h1,h2⟩; exact ⟨_,h1,h2⟩
def aggK:V->(List V->Prop)->Prop
 | .agg cs,K=>K cs
 | _,_=>False
theorem aggK_eq (K:List V->Prop) (o:Option V):(∃ v,o=some v/\aggK v K)=∃ cs,o=some (.agg cs)/\K cs:=by
 apply propext
 constructor
 ·rintro ⟨v,h1,h2⟩
  cases v <;> first | exact h2.elim | exact ⟨_,h1,h2⟩
 ·rintro ⟨s,h1,h2⟩; exact ⟨_,h1,h2⟩
def fnK:V->(Nat->List V->Prop)->Prop
 | .fn f cs,K=>K f cs
 | _,_=>False
def ifcK:V->(Nat->V->Prop)->Prop
 | .ifc t v,K=>K t v
 | _,_=>False
theorem ifcK_eq (K:Nat->V->Prop) (o:Option V):(∃ v,o=some v/\ifcK v K)=∃ t u,o=some (.ifc t u)/\K t u:=by
 apply propext
 constructor
 ·rintro ⟨v,h1,h2⟩
  cases v <;> first | exact h2.elim | exact ⟨_,_,h1,h2⟩
 ·rintro ⟨f,s,h1,h2⟩; exact ⟨_,h1,h2⟩
def ay0 (v:V) (K:List V->Prop):Prop:=∃ us,v.cells=some us/\K us
def ldK (hp:Hp):V->(V->Prop)->Prop
 | .rp cs,K=>nthK cs 0 K
 | .bp i off,K=>objK hp i fun o=>boxK o fun cs=>nthK cs off K
 | .ep i k off,K=>objK hp i fun o=>rowK o fun _ _ _ xs=>fW0 xs k fun e=>nthK e off K
 | _,_=>False
theorem ldK_eq (v:V) (K:V->Prop):ldV hp v K=ldK hp v K:=by
 cases v <;> simp only [ldV,ldK,ol0,fg0,iO0,fW0]
def ldaK (hp:Hp) (sz:Nat):V->(V->Prop)->Prop
 | .rp cs,K=>sz<=cs.length/\K (.agg (cs.take sz))
 | .bp i off,K=>objK hp i fun o=>boxK o fun cs=>off + sz<=cs.length/\K (.agg ((cs.drop off).take sz))
 | .ep i k off,K=>objK hp i fun o=>rowK o fun _ _ _ xs=>fW0 xs k fun e=>off + sz<=e.length/\K (.agg ((e.drop off).take sz))
 | _,_=>False
theorem ldaK_eq (v:V) (sz:Nat) (K:V->Prop):ldaV hp sz v K=ldaK hp sz v K:=by
 cases v <;> simp only [ldaV,ldaK,ol0,fg0,fW0]
def iaK (hp:Hp) (sz:Nat):V->Int->(V->Prop)->Prop
 | .lst xs,i,K=>0<=i/\fW0 xs i.toNat fun e=>e.length=sz/\K (.rp e)
 | .arr id o n,i,K=>0<=i/\i < n/\objK hp id fun ob=>rowK ob fun _ sz' _ _=>sz'=sz/\K (.ep id (o + i.toNat) 0)
 | _,_,_=>False
theorem iaK_eq (v u:V) (sz:Nat) (K:V->Prop):iaV hp sz v u K=intK u fun _ i=>iaK hp sz v i K:=by
 unfold iaV
 split
 ·simp only [intK,iaK,fW0]
  apply propext
  constructor
  ·rintro ⟨e,h1,h2,h3,h4⟩; exact ⟨h1,e,h2,h3,h4⟩
  ·rintro ⟨h1,e,h2,h3,h4⟩; exact ⟨e,h1,h2,h3,h4⟩
 ·simp only [intK,iaK,fg0]
  apply propext
  constructor
  ·rintro ⟨h1,h2,⟨ty,own,xs,h3⟩,h4⟩; exact ⟨h1,h2,ty,_,own,xs,h3,rfl,h4⟩
  ·rintro ⟨h1,h2,ty,sz',own,xs,h3,rfl,h4⟩; exact ⟨h1,h2,⟨ty,own,xs,h3⟩,h4⟩
 ·rename_i h1 h2
  apply propext
  constructor
  ·exact False.elim
  ·intro h
   cases u with
   | c x =>
    cases x <;> try exact h.elim
    cases v <;> first | exact h.elim | exact (h1 _ _ _ rfl rfl).elim | exact (h2 _ _ _ _ _ rfl rfl).elim
   | _=>exact h.elim
def srcK (hp:Hp) (sz:Nat):V->(List (List V)->Prop)->Prop
 | .nil,K=>K []
 | .lst ys,K=>(ys=[]\/∃ e,ys[0]?=some e/\e.length=sz)/\K ys
 | .arr j o m,K=>objK hp j fun ob=>rowK ob fun _ sz' _ xs=>sz'=sz/\o + m<=xs.length/\K ((xs.drop o).take m)
 | _,_=>False
theorem nd0 (v:V) (sz:Nat) (K:List (List V)->Prop):srcV hp sz v K=srcK hp sz v K:=by
 cases v <;> simp only [srcV,srcK,fg0]
 apply propext
 constructor
 ·rintro ⟨ty,own,xs,h1,h2,h3⟩; exact ⟨ty,_,own,xs,h1,rfl,h2,h3⟩
 ·rintro ⟨ty,sz',own,xs,h1,rfl,h2,h3⟩; exact ⟨ty,own,xs,h1,h2,h3⟩
def stK (hp:Hp) (us:List V):V->(Hp->Prop)->Prop
 | .bp i off,K=>objK hp i fun o=>boxK o fun cs=>off + us.length<=cs.length/\K (Hp.set i (.box (setAt cs off us)) hp)
 | .ep i k off,K=>objK hp i fun o=>rowK o fun ty sz own xs=>own=true/\fW0 xs k fun e=>off + us.length<=e.length/\V.bt0 us=true/\K (Hp.set i (.row ty sz true (xs.set k (setAt e off us))) hp)
 | _,_=>False
theorem stK_eq (v:V) (us:List V) (K:Hp->Prop):stV hp us v K=stK hp us v K:=by
 cases v <;> simp only [stV,stK,ol0,fg0,fW0]
 apply propext
 constructor
 ·rintro ⟨ty,sz,xs,h1,h2⟩; exact ⟨ty,sz,true,xs,h1,rfl,h2⟩
 ·rintro ⟨ty,sz,own,xs,h1,rfl,h2⟩; exact ⟨ty,sz,xs,h1,h2⟩
def appK (env:Env) (hp:Hp) (ty sz bytes d:Nat) (v u:V) (K:Env->Hp->Prop):Prop :=
 match v with
 | .nil=>srcK hp sz u fun es=>es.length * bytes<=140737488355328 /\
   K ((Env.kill (.l d 0) env).put (some d) (.arr (.l d 0) 0 es.length)) ((.l d 0,.row ty sz true es) :: Hp.kill (.l d 0) hp)
 | .arr i o m=>o=0/\objK hp i fun ob=>rowK ob fun ty' sz' own xs=>ty'=ty/\sz'=sz/\own=true/\m<=xs.length/\srcK hp sz u fun es=>(m + es.length) * bytes<=140737488355328 /\
   K ((Env.kill (.l d 0) env).put (some d) (.arr (.l d 0) 0 (m + es.length))) ((.l d 0,.row ty sz true (xs.take m++es)) :: Hp.kill (.l d 0) (Hp.set i .gone hp))
 | .arc i o m c=>srcK hp sz u.kw0 fun es=>o=0/\m<=c/\objK hp i fun ob=>rowK ob fun ty' sz' own xs=>ty'=ty/\sz'=sz/\own=true/\c<=xs.length /\
   (m + es.length<=c->0 < c/\K (env.put (some d) (.arc i 0 (m + es.length) c)) (Hp.set i (.row ty sz true (xs.take m++es++xs.drop (m + es.length))) hp)) /\
   (¬ m + es.length<=c->(m + es.length) * bytes<=140737488355328/\K ((Env.kill (.l d 0) env).put (some d) (.arr (.l d 0) 0 (m + es.length))) ((.l d 0,.row ty sz true (xs.take m++es)) :: Hp.kill (.l d 0) hp))
 | _=>False
theorem arcV_row {i:Id} {o m c ty sz bytes d:Nat} {es:List (List V)} {K:Env->Hp->Prop}:arcV env hp ty sz bytes d (.arc i o m c) es K=(o=0/\m<=c/\objK hp i fun ob=>rowK ob fun ty' sz' own xs=>ty'=ty/\sz'=sz/\own=true/\c<=xs.length /\
   (m + es.length<=c->0 < c/\K (env.put (some d) (.arc i 0 (m + es.length) c)) (Hp.set i (.row ty sz true (xs.take m++es++xs.drop (m + es.length))) hp)) /\
   (¬ m + es.length<=c->(m + es.length) * bytes<=140737488355328/\K ((Env.kill (.l d 0) env).put (some d) (.arr (.l d 0) 0 (m + es.length))) ((.l d 0,.row ty sz true (xs.take m++es)) :: Hp.kill (.l d 0) hp))):=by
 simp only [arcV,fg0]
 apply propext
 constructor
 ·rintro ⟨h0,h1,xs,h2,h3,h4,h5⟩; exact ⟨h0,h1,ty,sz,true,xs,h2,rfl,rfl,rfl,h3,h4,h5⟩
 ·rintro ⟨h0,h1,ty',sz',own,xs,h2,rfl,rfl,rfl,h3,h4,h5⟩; exact ⟨h0,h1,xs,h2,h3,h4,h5⟩
theorem appK_eq (ty sz bytes d:Nat) (v u:V) (K:Env->Hp->Prop):appW env hp ty sz bytes d v u K=appK env hp ty sz bytes d v u K:=by
 cases v <;> simp only [appW,appV,appK,qn0,arcV_row,nd0,fg0]
 apply propext
 constructor
 ·rintro ⟨h0,xs,h1,h2⟩; exact ⟨h0,ty,sz,true,xs,h1,rfl,rfl,rfl,h2⟩
 ·rintro ⟨h0,ty',sz',own,xs,h1,rfl,rfl,rfl,h2⟩; exact ⟨h0,xs,h1,h2⟩
def mpoK:Ob->(Option IntKind->List (Value × V)->Prop)->Prop
 | .mpo kd kvs,K=>K kd kvs
 | _,_=>False
theorem mpoK_eq (i:Id) (K:Option IntKind->List (Value × V)->Prop):(objK hp i fun o=>mpoK o K)=∃ kd kvs,hp.lookup i=some (.mpo kd kvs)/\K kd kvs:=by
 rw [h90]
 apply propext
 constructor
 ·rintro ⟨o,h1,h2⟩
  cases o with
  | mpo kd kvs=>exact ⟨kd,kvs,h1,h2⟩
  | _=>exact h2.elim
 ·rintro ⟨kd,kvs,h1,h2⟩; exact ⟨_,h1,h2⟩
def pvK (env:Env) (hp:Hp):IOp->(V->Prop)->Prop
 | .mv x,K=>evK env x K
 | .pick c a b,K=>evK env c fun v=>bC0 v fun t=>(t=true->evK env a K)/\(t=false->evK env b K)
 | .ld x,K=>evK env x fun v=>ldK hp v K
 | .lda sz x,K=>evK env x fun v=>ldaK hp sz v K
 | .nchk x,K=>evK env x fun v=>nC0 v K
 | .bin op x y,K=>evK env x fun v=>evK env y fun u=>binV op v u K
 | .binb ne x y,K=>evK env x fun v=>evK env y fun u=>qp0 ne v u K
 | .un op x,K=>evK env x fun v=>unV op v K
 | .conv k x,K=>evK env x fun v=>intK v fun _ n=>K (.c (.int k (k.wrap n)))
 | .cvIS x,K=>evK env x fun v=>intK v fun _ n=>(0<=n/\n < 128)/\K (.c (.string (chr n)))
 | .mkfn f cs,K=>evsK env cs fun vs=>K (.fn f vs)
 | .mkif t x,K=>evK env x fun v=>K (.ifc t v)
 | .slS x lo hi,K=>evK env x fun v=>slSV v (lo.map (Env.ev env)) (hi.map (Env.ev env)) K
 | .slL sz x lo hi,K=>evK env x fun v=>slLV hp sz v (lo.map (Env.ev env)) (hi.map (Env.ev env)) K
 | .fa off x,K=>evK env x fun v=>faV off v K
 | .fld off x,K=>evK env x fun v=>aggK v fun cs=>nthK cs off K
 | .flda off sz x,K=>evK env x fun v=>aggK v fun cs=>off + sz<=cs.length/\K (.agg ((cs.drop off).take sz))
 | .ia sz x i,K=>evK env x fun v=>evK env i fun u=>intK u fun _ i=>iaK hp sz v i K
 | .ixS x i,K=>evK env x fun v=>evK env i fun u=>ixSV v u K
 | .ext x i,K=>evK env x fun v=>extV i v K
 | .len x,K=>evK env x fun v=>lenV v K
 | .lenS x,K=>evK env x fun v=>strK v fun s=>K (.c (.int .i64 (s.size:Int)))
 | .mx x y,K=>evK env x fun v=>intK v fun k a=>evK env y fun u=>intK u fun _ b=>K (.c (.int k (if b > a then b else a)))
 | .mn x y,K=>evK env x fun v=>intK v fun k a=>evK env y fun u=>intK u fun _ b=>K (.c (.int k (if b < a then b else a)))
 | .build z ps,K=>hZ0 (Env.ev env) ps z fun cs=>K (.agg cs)
 | .ta t z x,K=>evK env x fun v=>taV t z v K
 | .isni ng x,K=>evK env x fun v=>pB0 v fun b=>K (.c (.bool (if ng then !b else b)))
 | .ixA n x i,K=>evK env x fun v=>aggK v fun cs=>evK env i fun u=>ixAV n cs u K
 | _,_=>False
theorem by0 (op:IOp) (K:V->Prop):pv hp (Env.ev env) op K=pvK env hp op K:=by
 cases op
 case ia sz x i =>
  simp only [pv,pvK,bU0,iaK_eq]
  apply propext
  constructor
  ·rintro ⟨v,u,h1,h2,h3⟩; exact ⟨v,h1,u,h2,h3⟩
  ·rintro ⟨v,h1,u,h2,h3⟩; exact ⟨v,u,h1,h2,h3⟩
 case ixA m x i =>
  simp only [pv,pvK,bU0,aggK_eq]
  apply propext
  constructor
  ·rintro ⟨cs,u,h1,h2,h3⟩; exact ⟨cs,h1,u,h2,h3⟩
  ·rintro ⟨cs,h1,u,h2,h3⟩; exact ⟨cs,u,h1,h2,h3⟩
 all_goals simp only [pv,pvK,bU0,ld0,ok0,ldK_eq,ldaK_eq,intK_eq,qW0,aggK_eq,iO0]
 all_goals
  first
   | rfl
   | (apply propext
      constructor
      ·rintro ⟨v,u,h1,h2,h3⟩; exact ⟨v,h1,u,h2,h3⟩
      ·rintro ⟨v,h1,u,h2,h3⟩; exact ⟨v,u,h1,h2,h3⟩)
   | (apply propext
      constructor
      ·rintro ⟨k,k',a,b,h1,h2,h3⟩; exact ⟨k,a,h1,k',b,h2,h3⟩
      ·rintro ⟨k,a,h1,k',b,h2,h3⟩; exact ⟨k,k',a,b,h1,h2,h3⟩)
end Go.Am
end

section
namespace Go.Am
universe u v
variable {P:Program} {n:Nat} {env:Env} {hp:Hp}
structure Tg {α:Sort u} (K:α):Type where
def hold {α:Sort u} (K:α) (t:Tg K:=⟨⟩):α:=K
@[simp] theorem hold_app {α:Sort u} {β:Sort v} (K:α->β) (t:Tg K) (x:α):hold K t x=K x:=_root_.id rfl
def iteK (b:Bool) (A B:Prop):Prop:=(b=true->A)/\(b=false->B)
@[simp] theorem iteK_true {A B:Prop} {t:Tg A} {t':Tg B}:iteK true (hold A t) (hold B t')=A:=by simp [iteK,hold]
@[simp] theorem iteK_false {A B:Prop} {t:Tg A} {t':Tg B}:iteK false (hold A t) (hold B t')=B:=by simp [iteK,hold]
@[simp] theorem iteK_not {b:Bool} {A B:Prop}:iteK (!b) A B=iteK b B A:=by cases b <;> simp [iteK]
@[simp] theorem iteK_dec {p:Prop} [Decidable p] {A B:Prop} {t:Tg A} {t':Tg B}:iteK (decide p) (hold A t) (hold B t')=((p->A)/\(¬ p->B)):=by simp [iteK,hold]
@[simp low] theorem iteK_var {b:Bool} {A B:Prop} {t:Tg A} {t':Tg B}:iteK b (hold A t) (hold B t')=((b=true->A)/\(b=false->B)):=by simp [iteK,hold]
theorem iteK_want {b want:Bool} {A B:Prop}:iteK (b == want) A B=((b=want->A)/\(b ≠ want->B)):=by cases b <;> cases want <;> simp [iteK]
section ops
variable {d:Option Nat} {s:Nat} {K:Env->Hp->Prop} {Kp:V->Hp->Prop}
@[simp] theorem vcOp_mv_h {x}:vcOp P env hp d (.mv x) K Kp=evK env x (hold fun v=>K (env.put d v) hp):=by0 (env:=env) (hp:=hp) (.mv x) fun v=>K (env.put d v) hp
@[simp] theorem vcOp_pick_h {c a b}:vcOp P env hp d (.pick c a b) K Kp=evK env c (hold fun v=>bC0 v (hold fun t=>iteK t (hold (evK env a (hold fun v=>K (env.put d v) hp))) (hold (evK env b (hold fun v=>K (env.put d v) hp))))):=by0 (env:=env) (hp:=hp) (.pick c a b) fun v=>K (env.put d v) hp
@[simp] theorem vcOp_ld_h {x}:vcOp P env hp d (.ld x) K Kp=evK env x (hold fun v=>ldK hp v (hold fun v=>K (env.put d v) hp)):=by0 (env:=env) (hp:=hp) (.ld x) fun v=>K (env.put d v) hp
@[simp] theorem vcOp_lda_h {sz x}:vcOp P env hp d (.lda sz x) K Kp=evK env x (hold fun v=>ldaK hp sz v (hold fun v=>K (env.put d v) hp)):=by0 (env:=env) (hp:=hp) (.lda sz x) fun v=>K (env.put d v) hp
@[simp] theorem vcOp_nchk_h {x}:vcOp P env hp d (.nchk x) K Kp=evK env x (hold fun v=>nC0 v (hold fun v=>K (env.put d v) hp)):=by0 (env:=env) (hp:=hp) (.nchk x) fun v=>K (env.put d v) hp
@[simp] theorem vcOp_bin_h {op x y}:vcOp P env hp d (.bin op x y) K Kp=evK env x (hold fun v=>evK env y (hold fun u=>binV op v u (hold fun v=>K (env.put d v) hp))):=by0 (env:=env) (hp:=hp) (.bin op x y) fun v=>K (env.put d v) hp
@[simp] theorem vcOp_un_h {op x}:vcOp P env hp d (.un op x) K Kp=evK env x (hold fun v=>unV op v (hold fun v=>K (env.put d v) hp)):=by0 (env:=env) (hp:=hp) (.un op x) fun v=>K (env.put d v) hp
@[simp] theorem vcOp_conv_h {k x}:vcOp P env hp d (.conv k x) K Kp=evK env x (hold fun v=>intK v (hold fun _ n=>K (env.put d (.c (.int k (k.wrap n)))) hp)):=by0 (env:=env) (hp:=hp) (.conv k x) fun v=>K (env.put d v) hp
@[simp] theorem vcOp_cvIS_h {x}:vcOp P env hp d (.cvIS x) K Kp=evK env x (hold fun v=>intK v (hold fun _ n=>(0<=n/\n < 128)/\K (env.put d (.c (.string (chr n)))) hp)):=by0 (env:=env) (hp:=hp) (.cvIS x) fun v=>K (env.put d v) hp
@[simp] theorem vcOp_mkfn_h {f cs}:vcOp P env hp d (.mkfn f cs) K Kp=evsK env cs (hold fun vs=>K (env.put d (.fn f vs)) hp):=by0 (env:=env) (hp:=hp) (.mkfn f cs) fun v=>K (env.put d v) hp
@[simp] theorem vcOp_mkif_h {t x}:vcOp P env hp d (.mkif t x) K Kp=evK env x (hold fun v=>K (env.put d (.ifc t v)) hp):=by0 (env:=env) (hp:=hp) (.mkif t x) fun v=>K (env.put d v) hp
@[simp] theorem vcOp_ta_h {t z x}:vcOp P env hp d (.ta t z x) K Kp=evK env x (hold fun v=>taV t z v (hold fun v=>K (env.put d v) hp)):=by0 (env:=env) (hp:=hp) (.ta t z x) fun v=>K (env.put d v) hp
@[simp] theorem vcOp_isni_h {ng x}:vcOp P env hp d (.isni ng x) K Kp=evK env x (hold fun v=>pB0 v (hold fun b=>K (env.put d (.c (.bool (if ng then !b else b)))) hp)):=by0 (env:=env) (hp:=hp) (.isni ng x) fun v=>K (env.put d v) hp
@[simp] theorem vcOp_slS_h {x lo hi}:vcOp P env hp d (.slS x lo hi) K Kp=evK env x (hold fun v=>slSV v (lo.map (Env.ev env)) (hi.map (Env.ev env)) (hold fun v=>K (env.put d v) hp)):=by0 (env:=env) (hp:=hp) (.slS x lo hi) fun v=>K (env.put d v) hp
@[simp] theorem vcOp_slL_h {sz x lo hi}:vcOp P env hp d (.slL sz x lo hi) K Kp=evK env x (hold fun v=>slLV hp sz v (lo.map (Env.ev env)) (hi.map (Env.ev env)) (hold fun v=>K (env.put d v) hp)):=by0 (env:=env) (hp:=hp) (.slL sz x lo hi) fun v=>K (env.put d v) hp
@[simp] theorem vcOp_fa_h {off x}:vcOp P env hp d (.fa off x) K Kp=evK env x (hold fun v=>faV off v (hold fun v=>K (env.put d v) hp)):=by0 (env:=env) (hp:=hp) (.fa off x) fun v=>K (env.put d v) hp
@[simp] theorem vcOp_fld_h {off x}:vcOp P env hp d (.fld off x) K Kp=evK env x (hold fun v=>aggK v (hold fun cs=>nthK cs off (hold fun v=>K (env.put d v) hp))):=by0 (env:=env) (hp:=hp) (.fld off x) fun v=>K (env.put d v) hp
@[simp] theorem vcOp_ia_h {sz x i}:vcOp P env hp d (.ia sz x i) K Kp=evK env x (hold fun v=>evK env i (hold fun u=>intK u (hold fun _ i=>iaK hp sz v i (hold fun v=>K (env.put d v) hp)))):=by0 (env:=env) (hp:=hp) (.ia sz x i) fun v=>K (env.put d v) hp
@[simp] theorem vcOp_ixS_h {x i}:vcOp P env hp d (.ixS x i) K Kp=evK env x (hold fun v=>evK env i (hold fun u=>ixSV v u (hold fun v=>K (env.put d v) hp))):=by0 (env:=env) (hp:=hp) (.ixS x i) fun v=>K (env.put d v) hp
@[simp] theorem vcOp_ext_h {x i}:vcOp P env hp d (.ext x i) K Kp=evK env x (hold fun v=>extV i v (hold fun v=>K (env.put d v) hp)):=by0 (env:=env) (hp:=hp) (.ext x i) fun v=>K (env.put d v) hp
@[simp] theorem vcOp_len_h {x}:vcOp P env hp d (.len x) K Kp=evK env x (hold fun v=>lenV v (hold fun v=>K (env.put d v) hp)):=by0 (env:=env) (hp:=hp) (.len x) fun v=>K (env.put d v) hp
@[simp] theorem vcOp_lenS_h {x}:vcOp P env hp d (.lenS x) K Kp=evK env x (hold fun v=>strK v (hold fun s=>K (env.put d (.c (.int .i64 (s.size:Int)))) hp)):=by0 (env:=env) (hp:=hp) (.lenS x) fun v=>K (env.put d v) hp
@[simp] theorem vcOp_build_h {z ps}:vcOp P env hp d (.build z ps) K Kp=hZ0 (Env.ev env) ps z (hold fun cs=>K (env.put d (.agg cs)) hp):=by0 (env:=env) (hp:=hp) (.build z ps) fun v=>K (env.put d v) hp
theorem sx0 {z}:vcOp P env hp (some s) (.alloc z) K Kp=K ((Env.kill (.l s 0) env).put (some s) (.bp (.l s 0) 0)) ((.l s 0,.box z) :: Hp.kill (.l s 0) hp):=by
 simp only [vcOp]; apply propext; exact ⟨fun ⟨_,e,h⟩=>by injection e with e; subst e; exact h,fun h=>⟨s,rfl,h⟩⟩
theorem q00 {t z}:vcOp P env hp (some s) (.allocS t z) K Kp=K ((Env.kill (.l s 0) env).put (some s) (.bp (.l s 0) 0)) ((.l s 0,.box (.self (.l s 0) t :: z)) :: Hp.kill (.l s 0) hp):=by
 simp only [vcOp]; apply propext; exact ⟨fun ⟨_,e,h⟩=>by injection e with e; subst e; exact h,fun h=>⟨s,rfl,h⟩⟩
theorem vcOp_cvSB {x}:vcOp P env hp d (.cvSB x) K Kp=evK env x fun v=>strK v fun s=>K (env.put d (.lst (a10 s))) hp:=by
 simp only [vcOp,bU0,qW0]
@[simp] theorem vcOp_cvSB_h {x}:vcOp P env hp d (.cvSB x) K Kp=evK env x (hold fun v=>strK v (hold fun s=>K (env.put d (.lst (a10 s))) hp)):=vcOp_cvSB
theorem vcOp_appS {ty x y}:vcOp P env hp (some s) (.appS ty x y) K Kp=evK env x fun v=>evK env y fun u=>strK u fun bs=>bs0 env hp ty 1 1 s v (a10 bs) K:=by
 simp only [vcOp,bU0,qW0]; apply propext
 exact ⟨fun ⟨_,v,bs,e,h1,h2,h⟩=>by injection e with e; subst e; exact ⟨v,h1,bs,h2,h⟩,fun ⟨v,h1,bs,h2,h⟩=>⟨s,v,bs,rfl,h1,h2,h⟩⟩
@[simp] theorem vcOp_appS_h {ty x y}:vcOp P env hp (some s) (.appS ty x y) K Kp=evK env x (hold fun v=>evK env y (hold fun u=>strK u (hold fun bs=>bs0 env hp ty 1 1 s v (a10 bs) K))):=vcOp_appS
theorem vcOp_cvBS {x}:vcOp P env hp d (.cvBS x) K Kp=evK env x fun v=>srcK hp 1 v fun es=>∃ s,es=a10 s/\K (env.put d (.c (.string s))) hp:=by
 simp only [vcOp,bU0,nd0]
@[simp] theorem vcOp_cvBS_h {x}:vcOp P env hp d (.cvBS x) K Kp=evK env x (hold fun v=>srcK hp 1 v (hold fun es=>∃ s,es=a10 s/\K (env.put d (.c (.string s))) hp)):=vcOp_cvBS
theorem vcOp_iaA {m sz x i}:vcOp P env hp d (.iaA m sz x i) K Kp=evK env x fun v=>evK env i fun u=>iaAV m sz v u fun r=>K (env.put d r) hp:=by
 simp only [vcOp,bU0]; apply propext
 exact ⟨fun ⟨v,u,h1,h2,h⟩=>⟨v,h1,u,h2,h⟩,fun ⟨v,h1,u,h2,h⟩=>⟨v,u,h1,h2,h⟩⟩
@[simp] theorem vcOp_iaA_h {m sz x i}:vcOp P env hp d (.iaA m sz x i) K Kp=evK env x (hold fun v=>evK env i (hold fun u=>iaAV m sz v u (hold fun r=>K (env.put d r) hp))):=vcOp_iaA
theorem vcOp_slA {m sz x}:vcOp P env hp d (.slA m sz x) K Kp=evK env x fun v=>slAV hp m sz v fun xs hp'=>K (env.put d (.lst xs)) hp':=by
 simp only [vcOp,bU0]
@[simp] theorem vcOp_slA_h {m sz x}:vcOp P env hp d (.slA m sz x) K Kp=evK env x (hold fun v=>slAV hp m sz v (hold fun xs hp'=>K (env.put d (.lst xs)) hp')):=vcOp_slA
theorem vcOp_box {sz x}:vcOp P env hp (some s) (.box sz x) K Kp=evK env x fun v=>ay0 v fun us=>K ((Env.kill (.l s 0) env).put (some s) (.bp (.l s 0) 0)) ((.l s 0,.box (us.map (V.kill (.l s 0)))) :: Hp.kill (.l s 0) hp):=by
 simp only [vcOp,bU0,ay0]; apply propext
 exact ⟨fun ⟨_,v,us,e,h1,h2,h⟩=>by injection e with e; subst e; exact ⟨v,h1,us,h2,h⟩,fun ⟨v,h1,us,h2,h⟩=>⟨s,v,us,rfl,h1,h2,h⟩⟩
@[simp] theorem vcOp_box_h {sz x}:vcOp P env hp (some s) (.box sz x) K Kp=evK env x (hold fun v=>ay0 v (hold fun us=>K ((Env.kill (.l s 0) env).put (some s) (.bp (.l s 0) 0)) ((.l s 0,.box (us.map (V.kill (.l s 0)))) :: Hp.kill (.l s 0) hp))):=vcOp_box
def selfK (cs:List V) (K:List V->Prop):Prop:=∃ us,cs=.c (.pointer none) :: us/\K us
@[simp] theorem selfK_cons {us:List V} {K:List V->Prop}:selfK (.c (.pointer none) :: us) K=K us:=by
 unfold selfK; apply propext
 exact ⟨fun ⟨q,e,h⟩=>by injection e with _ e; subst e; exact h,fun h=>⟨us,rfl,h⟩⟩
theorem vcOp_boxS {t sz x}:vcOp P env hp (some s) (.boxS t sz x) K Kp=evK env x fun v=>ay0 v fun cs=>selfK cs fun us=>K ((Env.kill (.l s 0) env).put (some s) (.bp (.l s 0) 0)) ((.l s 0,.box (.self (.l s 0) t :: us.map (V.kill (.l s 0)))) :: Hp.kill (.l s 0) hp):=by
 simp only [vcOp,bU0,ay0,selfK]; apply propext
 exact ⟨fun ⟨_,v,us,e,h1,h2,h⟩=>by injection e with e; subst e; exact ⟨v,h1,_,h2,us,rfl,h⟩,fun ⟨v,h1,cs,h2,us,e,h⟩=>by subst e; exact ⟨s,v,us,rfl,h1,h2,h⟩⟩
@[simp] theorem vcOp_boxS_h {t sz x}:vcOp P env hp (some s) (.boxS t sz x) K Kp=evK env x (hold fun v=>ay0 v (hold fun cs=>selfK cs (hold fun us=>K ((Env.kill (.l s 0) env).put (some s) (.bp (.l s 0) 0)) ((.l s 0,.box (.self (.l s 0) t :: us.map (V.kill (.l s 0)))) :: Hp.kill (.l s 0) hp)))):=vcOp_boxS
theorem vcOp_mks {ty sz bytes z l c}:vcOp P env hp (some s) (.mks ty sz bytes z l c) K Kp=evK env l fun v=>intK v fun _ li=>evK env c fun u=>intK u fun _ ci=>0<=li/\li<=ci/\ci * bytes<=281474976710656/\ci<=281474976710656 /\
   K ((Env.kill (.l s 0) env).put (some s) (.arr (.l s 0) 0 li.toNat)) ((.l s 0,.row ty sz true (List.replicate li.toNat z)) :: Hp.kill (.l s 0) hp):=by
 simp only [vcOp,bU0,intK_eq]; apply propext
 exact ⟨fun ⟨_,kl,kc,li,ci,e,h1,h2,h⟩=>by injection e with e; subst e; exact ⟨kl,li,h1,kc,ci,h2,h⟩,fun ⟨kl,li,h1,kc,ci,h2,h⟩=>⟨s,kl,kc,li,ci,rfl,h1,h2,h⟩⟩
@[simp] theorem vcOp_mks_h {ty sz bytes z l c}:vcOp P env hp (some s) (.mks ty sz bytes z l c) K Kp=evK env l (hold fun v=>intK v (hold fun _ li=>evK env c (hold fun u=>intK u (hold fun _ ci=>0<=li/\li<=ci/\ci * bytes<=281474976710656/\ci<=281474976710656 /\
   K ((Env.kill (.l s 0) env).put (some s) (.arr (.l s 0) 0 li.toNat)) ((.l s 0,.row ty sz true (List.replicate li.toNat z)) :: Hp.kill (.l s 0) hp))))):=vcOp_mks
theorem vcOp_st {sz x y}:vcOp P env hp none (.st sz x y) K Kp=evK env x fun u=>evK env y fun v=>ay0 v fun us=>us.length=sz/\scalars us=true/\stK hp us u fun hp'=>K env hp':=by
 simp only [vcOp,bU0,ay0,stK_eq]; apply propext
 exact ⟨fun ⟨_,u,v,us,h1,h2,h3,h4⟩=>⟨u,h1,v,h2,us,h3,h4⟩,fun ⟨u,h1,v,h2,us,h3,h4⟩=>⟨trivial,u,v,us,h1,h2,h3,h4⟩⟩
@[simp] theorem vcOp_st_h {sz x y}:vcOp P env hp none (.st sz x y) K Kp=evK env x (hold fun u=>evK env y (hold fun v=>ay0 v (hold fun us=>us.length=sz/\scalars us=true/\stK hp us u (hold fun hp'=>K env hp')))):=vcOp_st
theorem vcOp_app {ty sz bytes x y}:vcOp P env hp (some s) (.app ty sz bytes x y) K Kp=evK env x fun v=>evK env y fun u=>appK env hp ty sz bytes s v u K:=by
 simp only [vcOp,bU0,appK_eq]; apply propext
 exact ⟨fun ⟨_,v,u,e,h1,h2,h⟩=>by injection e with e; subst e; exact ⟨v,h1,u,h2,h⟩,fun ⟨v,h1,u,h2,h⟩=>⟨s,v,u,rfl,h1,h2,h⟩⟩
@[simp] theorem vcOp_app_h {ty sz bytes x y}:vcOp P env hp (some s) (.app ty sz bytes x y) K Kp=evK env x (hold fun v=>evK env y (hold fun u=>appK env hp ty sz bytes s v u K)):=vcOp_app
def az0 (us:List V) (K:List (List V)->Prop):Prop:=∃ els,us.mapM V.cells=some els/\K els
theorem sz0 {ty sz xs}:vcOp P env hp (some s) (.mkrow ty sz xs) K Kp=evsK env xs fun vs=>V.seeL false [] (Hp.frz (.tup vs) hp) vs fun us=>az0 us fun els=>els.all (fun e=>e.length == sz && scalars e && V.bt0 e)=true /\
  K ((Env.kill (.l s 0) env).put (some s) (.arr (.l s 0) 0 els.length)) ((.l s 0,.row ty sz true els) :: Hp.kill (.l s 0) (Hp.frz (.tup vs) hp)):=by
 simp only [vcOp,mkrowV,ld0,az0]; apply propext
 exact ⟨fun ⟨_,e,vs,h1,h⟩=>by injection e with e; subst e; exact ⟨vs,h1,h⟩,fun ⟨vs,h1,h⟩=>⟨s,rfl,vs,h1,h⟩⟩
@[simp] theorem vcOp_mkrow_h {ty sz xs}:vcOp P env hp (some s) (.mkrow ty sz xs) K Kp=evsK env xs (hold fun vs=>V.seeL false [] (Hp.frz (.tup vs) hp) vs (hold fun us=>az0 us (hold fun els=>els.all (hold fun e=>e.length == sz && scalars e && V.bt0 e)=true /\
  K ((Env.kill (.l s 0) env).put (some s) (.arr (.l s 0) 0 els.length)) ((.l s 0,.row ty sz true els) :: Hp.kill (.l s 0) (Hp.frz (.tup vs) hp))))):=sz0
theorem vcOp_pan {x}:vcOp P env hp d (.pan x) K Kp=evK env x fun v=>ifcK v fun t u=>Kp (.ifc t u) hp:=by
 simp only [vcOp,bU0,ifcK_eq]
@[simp] theorem vcOp_pan_h {x}:vcOp P env hp d (.pan x) K Kp=evK env x (hold fun v=>ifcK v (hold fun t u=>Kp (.ifc t u) hp)):=vcOp_pan
theorem vcOp_isnl {ng x}:vcOp P env hp d (.isnl ng x) K Kp=evK env x fun v=>pC0 v fun b=>K (env.put d (.c (.bool (if ng then !b else b)))) hp:=by
 simp only [vcOp,bU0]
@[simp] theorem vcOp_isnl_h {ng x}:vcOp P env hp d (.isnl ng x) K Kp=evK env x (hold fun v=>pC0 v (hold fun b=>K (env.put d (.c (.bool (if ng then !b else b)))) hp)):=vcOp_isnl
theorem vcOp_cpy {sz x y}:vcOp P env hp d (.cpy sz x y) K Kp=evK env x fun v=>evK env y fun u=>cpyV hp sz v u fun k hp'=>K (env.put d (.c (.int .i64 k))) hp':=by
 simp only [vcOp,bU0]; apply propext
 exact ⟨fun ⟨v,u,h1,h2,h⟩=>⟨v,h1,u,h2,h⟩,fun ⟨v,h1,u,h2,h⟩=>⟨v,u,h1,h2,h⟩⟩
@[simp] theorem vcOp_cpy_h {sz x y}:vcOp P env hp d (.cpy sz x y) K Kp=evK env x (hold fun v=>evK env y (hold fun u=>cpyV hp sz v u (hold fun k hp'=>K (env.put d (.c (.int .i64 k))) hp'))):=vcOp_cpy
theorem sy0 {kd}:vcOp P env hp (some s) (.mkmap kd) K Kp=K ((Env.kill (.l s 0) env).put (some s) (.mp (.l s 0))) ((.l s 0,.mpo kd []) :: Hp.kill (.l s 0) hp):=by
 simp only [vcOp,mkmapV]; apply propext
 exact ⟨fun ⟨_,e,h⟩=>by injection e with e; subst e; exact h,fun h=>⟨s,rfl,h⟩⟩
attribute [simp] sy0
theorem vcOp_mput {kd m k x}:vcOp P env hp none (.mput kd m k x) K Kp=evK env m fun vm=>evK env k fun vk=>evK env x fun vx=>pS0 hp kd vm vk vx fun hp'=>K env hp':=by
 simp only [vcOp,bU0]; apply propext
 exact ⟨fun ⟨_,vm,vk,vx,h1,h2,h3,h⟩=>⟨vm,h1,vk,h2,vx,h3,h⟩,fun ⟨vm,h1,vk,h2,vx,h3,h⟩=>⟨trivial,vm,vk,vx,h1,h2,h3,h⟩⟩
@[simp] theorem vcOp_mput_h {kd m k x}:vcOp P env hp none (.mput kd m k x) K Kp=evK env m (hold fun vm=>evK env k (hold fun vk=>evK env x (hold fun vx=>pS0 hp kd vm vk vx (hold fun hp'=>K env hp')))):=vcOp_mput
theorem vcOp_mget {kd z ok m k}:vcOp P env hp d (.mget kd z ok m k) K Kp=evK env m fun vm=>evK env k fun vk=>pR0 hp kd z ok vm vk fun v=>K (env.put d v) hp:=by
 simp only [vcOp,bU0]; apply propext
 exact ⟨fun ⟨vm,vk,h1,h2,h⟩=>⟨vm,h1,vk,h2,h⟩,fun ⟨vm,h1,vk,h2,h⟩=>⟨vm,vk,h1,h2,h⟩⟩
@[simp] theorem vcOp_mget_h {kd z ok m k}:vcOp P env hp d (.mget kd z ok m k) K Kp=evK env m (hold fun vm=>evK env k (hold fun vk=>pR0 hp kd z ok vm vk (hold fun v=>K (env.put d v) hp))):=vcOp_mget
theorem vcOp_appz {ty sz bytes z x y}:vcOp P env hp (some s) (.appz ty sz bytes z x y) K Kp=evK env x fun v=>evK env y fun u=>bI0 env hp ty sz bytes z s v u K:=by
 simp only [vcOp,bU0]; apply propext
 exact ⟨fun ⟨_,v,u,e,h1,h2,h⟩=>by injection e with e; subst e; exact ⟨v,h1,u,h2,h⟩,fun ⟨v,h1,u,h2,h⟩=>⟨s,v,u,rfl,h1,h2,h⟩⟩
@[simp] theorem vcOp_appz_h {ty sz bytes z x y}:vcOp P env hp (some s) (.appz ty sz bytes z x y) K Kp=evK env x (hold fun v=>evK env y (hold fun u=>bI0 env hp ty sz bytes z s v u K)):=vcOp_appz
theorem vcOp_capn {x}:vcOp P env hp d (.capn x) K Kp=evK env x fun v=>capV v fun c=>K (env.put d (.c (.int .i64 c))) hp:=by
 simp only [vcOp,bU0]
@[simp] theorem vcOp_capn_h {x}:vcOp P env hp d (.capn x) K Kp=evK env x (hold fun v=>capV v (hold fun c=>K (env.put d (.c (.int .i64 c))) hp)):=vcOp_capn
def bJ0 (P:Program) (env:Env) (hp:Hp) (d:Option Nat) (f:Operand) (xs:List Operand) (K:Env->Hp->Prop) (Kp:V->Hp->Prop):Prop:=callP P env hp d f xs K Kp\/callX P env hp d f xs K Kp
theorem vcOp_call {f xs}:vcOp P env hp d (.call f xs) K Kp=bJ0 P env hp d f xs K Kp:=_root_.id rfl
end ops
section anyorder
variable {d:Option Nat} {s:Nat} {K Kp:V->Option Eff->Prop}
@[simp] theorem ne_mv_h {x}:ne P hp env d (.mv x) K Kp=evK env x (hold fun v=>K v none):=by0 (env:=env) (hp:=hp) (.mv x) fun v=>K v none
@[simp] theorem ne_nchk_h {x}:ne P hp env d (.nchk x) K Kp=evK env x (hold fun v=>nC0 v (hold fun v=>K v none)):=by0 (env:=env) (hp:=hp) (.nchk x) fun v=>K v none
@[simp] theorem ne_bin_h {op x y}:ne P hp env d (.bin op x y) K Kp=evK env x (hold fun v=>evK env y (hold fun u=>binV op v u (hold fun v=>K v none))):=by0 (env:=env) (hp:=hp) (.bin op x y) fun v=>K v none
@[simp] theorem ne_ixA_h {m x i}:ne P hp env d (.ixA m x i) K Kp=evK env x (hold fun v=>aggK v (hold fun cs=>evK env i (hold fun u=>ixAV m cs u (hold fun v=>K v none)))):=by0 (env:=env) (hp:=hp) (.ixA m x i) fun v=>K v none
@[simp] theorem ne_slS_h {x lo hi}:ne P hp env d (.slS x lo hi) K Kp=evK env x (hold fun v=>slSV v (lo.map (Env.ev env)) (hi.map (Env.ev env)) (hold fun v=>K v none)):=by0 (env:=env) (hp:=hp) (.slS x lo hi) fun v=>K v none
@[simp] theorem ne_fa_h {off x}:ne P hp env d (.fa off x) K Kp=evK env x (hold fun v=>faV off v (hold fun v=>K v none)):=by0 (env:=env) (hp:=hp) (.fa off x) fun v=>K v none
@[simp] theorem ne_ixS_h {x i}:ne P hp env d (.ixS x i) K Kp=evK env x (hold fun v=>evK env i (hold fun u=>ixSV v u (hold fun v=>K v none))):=by0 (env:=env) (hp:=hp) (.ixS x i) fun v=>K v none
@[simp] theorem ne_len_h {x}:ne P hp env d (.len x) K Kp=evK env x (hold fun v=>lenV v (hold fun v=>K v none)):=by0 (env:=env) (hp:=hp) (.len x) fun v=>K v none
@[simp] theorem ne_lenS_h {x}:ne P hp env d (.lenS x) K Kp=evK env x (hold fun v=>strK v (hold fun s=>K (.c (.int .i64 (s.size:Int))) none)):=by0 (env:=env) (hp:=hp) (.lenS x) fun v=>K v none
@[simp] theorem ne_build_h {z ps}:ne P hp env d (.build z ps) K Kp=hZ0 (Env.ev env) ps z (hold fun cs=>K (.agg cs) none):=by0 (env:=env) (hp:=hp) (.build z ps) fun v=>K v none
theorem qv0 {o:Option V} {p q:V->Prop} (h:∀ v,o=some v->(p v ↔ q v)):(∃ v,o=some v/\p v)=∃ v,o=some v/\q v :=
 propext ⟨fun ⟨v,h1,h2⟩=>⟨v,h1,(h v h1).1 h2⟩,fun ⟨v,h1,h2⟩=>⟨v,h1,(h v h1).2 h2⟩⟩
theorem ne_ld {x}:ne P hp env d (.ld x) K Kp=evK env x fun v=>ldK hp v fun u=>K u (rdE v.base hp):=by
 simp only [ne,pv,bU0]
 exact qv0 fun v h=>by simp only [IOp.tch,h,ldK_eq]
@[simp] theorem ne_ld_h {x}:ne P hp env d (.ld x) K Kp=evK env x (hold fun v=>ldK hp v (hold fun u=>K u (rdE v.base hp))):=ne_ld
theorem ne_lda {sz x}:ne P hp env d (.lda sz x) K Kp=evK env x fun v=>ldaK hp sz v fun u=>K u (rdE v.base hp):=by
 simp only [ne,pv,bU0]
 exact qv0 fun v h=>by simp only [IOp.tch,h,ldaK_eq]
@[simp] theorem ne_lda_h {sz x}:ne P hp env d (.lda sz x) K Kp=evK env x (hold fun v=>ldaK hp sz v (hold fun u=>K u (rdE v.base hp))):=ne_lda
theorem ne_ia {sz x i}:ne P hp env d (.ia sz x i) K Kp=evK env x fun v=>evK env i fun u=>intK u fun _ i=>iaK hp sz v i fun r=>K r (rdE v.base hp):=by
 simp only [ne,pv,bU0]
 have e:(∃ v u,Env.ev env x=some v/\Env.ev env i=some u/\iaV hp sz v u fun v=>K v (rdE (IOp.tch (Env.ev env) (.ia sz x i)) hp))=∃ v,Env.ev env x=some v/\∃ u,Env.ev env i=some u/\iaV hp sz v u fun v=>K v (rdE (IOp.tch (Env.ev env) (.ia sz x i)) hp) :=
  propext ⟨fun ⟨v,u,h1,h2,h3⟩=>⟨v,h1,u,h2,h3⟩,fun ⟨v,h1,u,h2,h3⟩=>⟨v,u,h1,h2,h3⟩⟩
 rw [e]
 exact qv0 fun v h=>by simp only [IOp.tch,h,iaK_eq]
@[simp] theorem ne_ia_h {sz x i}:ne P hp env d (.ia sz x i) K Kp=evK env x (hold fun v=>evK env i (hold fun u=>intK u (hold fun _ i=>iaK hp sz v i (hold fun r=>K r (rdE v.base hp))))):=ne_ia
theorem ne_mkrow {ty sz xs}:ne P hp env (some s) (.mkrow ty sz xs) K Kp=evsK env xs fun vs=>V.seeL false [] [] vs fun us=>az0 us fun els=>els.all (fun e=>e.length == sz && scalars e && V.bt0 e)=true /\
   K (.arr (.l s 0) 0 els.length) (some ⟨[],[],true,(.l s 0,.row ty sz true els) :: hp⟩):=by
 simp only [ne,ld0,az0]; apply propext
 exact ⟨fun ⟨_,vs,e,h1,h⟩=>by injection e with e; subst e; exact ⟨vs,h1,h⟩,fun ⟨vs,h1,h⟩=>⟨s,vs,rfl,h1,h⟩⟩
@[simp] theorem ne_mkrow_h {ty sz xs}:ne P hp env (some s) (.mkrow ty sz xs) K Kp=evsK env xs (hold fun vs=>V.seeL false [] [] vs (hold fun us=>az0 us (hold fun els=>els.all (hold fun e=>e.length == sz && scalars e && V.bt0 e)=true /\
   K (.arr (.l s 0) 0 els.length) (some ⟨[],[],true,(.l s 0,.row ty sz true els) :: hp⟩)))):=ne_mkrow
theorem ne_st {sz x y}:ne P hp env none (.st sz x y) K Kp=evK env x fun u=>evK env y fun v=>ay0 v fun us=>us.length=sz/\scalars us=true/\stK hp us u fun h=>K .any (some ⟨[],u.base,false,h⟩):=by
 simp only [ne,bU0,ay0,stK_eq]; apply propext
 exact ⟨fun ⟨_,u,v,us,h1,h2,h3,h⟩=>⟨u,h1,v,h2,us,h3,h⟩,fun ⟨u,h1,v,h2,us,h3,h⟩=>⟨trivial,u,v,us,h1,h2,h3,h⟩⟩
@[simp] theorem ne_st_h {sz x y}:ne P hp env none (.st sz x y) K Kp=evK env x (hold fun u=>evK env y (hold fun v=>ay0 v (hold fun us=>us.length=sz/\scalars us=true/\stK hp us u (hold fun h=>K .any (some ⟨[],u.base,false,h⟩))))):=ne_st
theorem ne_app {ty sz bytes x y}:ne P hp env (some s) (.app ty sz bytes x y) K Kp=evK env x fun v=>evK env y fun u=>appD hp ty sz bytes s v u K:=by
 simp only [ne,bU0]; apply propext
 exact ⟨fun ⟨_,v,u,e,h1,h2,h⟩=>by injection e with e; subst e; exact ⟨v,h1,u,h2,h⟩,fun ⟨v,h1,u,h2,h⟩=>⟨s,v,u,rfl,h1,h2,h⟩⟩
@[simp] theorem ne_app_h {ty sz bytes x y}:ne P hp env (some s) (.app ty sz bytes x y) K Kp=evK env x (hold fun v=>evK env y (hold fun u=>appD hp ty sz bytes s v u K)):=ne_app
theorem appD_nil {ty sz bytes u}:appD hp ty sz bytes s .nil u K=srcK hp sz u fun es=>es.length * bytes<=140737488355328/\K (.arr (.l s 0) 0 es.length) (some ⟨[],u.base,true,(.l s 0,.row ty sz true es) :: hp⟩):=by
 simp only [appD,nd0]
@[simp] theorem appD_nil_h {ty sz bytes u}:appD hp ty sz bytes s .nil u K=srcK hp sz u (hold fun es=>es.length * bytes<=140737488355328/\K (.arr (.l s 0) 0 es.length) (some ⟨[],u.base,true,(.l s 0,.row ty sz true es) :: hp⟩)):=appD_nil
theorem appD_arr {ty sz bytes i o m u}:appD hp ty sz bytes s (.arr i o m) u K=(o=0/\objK hp i fun ob=>rowK ob fun ty' sz' own xs=>ty'=ty/\sz'=sz/\own=true/\m<=xs.length/\srcK hp sz u fun es=>(m + es.length) * bytes<=140737488355328 /\
   K (.arr (.l s 0) 0 (m + es.length)) (some ⟨[],i :: u.base,true,(.l s 0,.row ty sz true (xs.take m++es)) :: Hp.set i .gone hp⟩)):=by
 simp only [appD,nd0,fg0]; apply propext
 constructor
 ·rintro ⟨h0,xs,h1,h2⟩; exact ⟨h0,ty,sz,true,xs,h1,rfl,rfl,rfl,h2⟩
 ·rintro ⟨h0,ty',sz',own,xs,h1,rfl,rfl,rfl,h2⟩; exact ⟨h0,xs,h1,h2⟩
@[simp] theorem appD_arr_h {ty sz bytes i o m u}:appD hp ty sz bytes s (.arr i o m) u K=(o=0/\objK hp i (hold fun ob=>rowK ob (hold fun ty' sz' own xs=>ty'=ty/\sz'=sz/\own=true/\m<=xs.length/\srcK hp sz u (hold fun es=>(m + es.length) * bytes<=140737488355328 /\
   K (.arr (.l s 0) 0 (m + es.length)) (some ⟨[],i :: u.base,true,(.l s 0,.row ty sz true (xs.take m++es)) :: Hp.set i .gone hp⟩))))):=appD_arr
def bP0 (P:Program) (env:Env) (hp:Hp) (d:Option Nat) (f:Operand) (xs:List Operand) (K Kp:V->Option Eff->Prop):Prop:=ne P hp env d (.call f xs) K Kp
theorem ne_call {f xs}:ne P hp env d (.call f xs) K Kp=bP0 P env hp d f xs K Kp:=_root_.id rfl
end anyorder
theorem vcI_none {d op} {K:Env->Hp->Prop} {Kp:V->Hp->Prop}:vcI P env hp ⟨d,none,op⟩ K Kp=vcOp P env hp d op K Kp:=_root_.id rfl
def grdK (v:V) (want:Bool) (A B:Prop):Prop:=grdV v want A B
@[simp] theorem grdK_bool {b want:Bool} {A B:Prop}:grdK (.c (.bool b)) want A B=iteK (b == want) A B:=by rw [iteK_want]; rfl
@[simp] theorem grdK_und {x want} {A B:Prop} {t:Tg B}:grdK (.c (.tuple x)) want A (hold B t)=B:=_root_.id rfl
theorem vcI_some {d op s want} {K:Env->Hp->Prop} {Kp:V->Hp->Prop}:vcI P env hp ⟨d,some (s,want),op⟩ K Kp=bc0 env s fun v=>grdK v want (vcOp P env hp d op K Kp) (K (env.put d V.und) hp):=by
 simp only [vcI,eM0,grdK]
@[simp] theorem vcI_some_h {d op s want} {K:Env->Hp->Prop} {Kp:V->Hp->Prop}:vcI P env hp ⟨d,some (s,want),op⟩ K Kp=bc0 env s (hold fun v=>grdK v want (hold (vcOp P env hp d op K Kp)) (hold (K (env.put d V.und) hp))):=vcI_some
theorem vcIs_nil {K:Env->Hp->Prop} {Kp:V->Hp->Prop}:vcIs P env hp [] K Kp=K env hp:=_root_.id rfl
@[simp] theorem vcIs_cons_h {i is} {K:Env->Hp->Prop} {Kp:V->Hp->Prop}:vcIs P env hp (i :: is) K Kp=vcI P env hp i (hold fun env' hp'=>vcIs P env' hp' is K Kp) Kp:=_root_.id rfl
theorem neG_none {d op} {K Kp:V->Option Eff->Prop}:neG P hp env ⟨d,none,op⟩ K Kp=ne P hp env d op K Kp:=_root_.id rfl
theorem neG_some {d op s want} {K Kp:V->Option Eff->Prop}:neG P hp env ⟨d,some (s,want),op⟩ K Kp=bc0 env s fun v=>grdK v want (ne P hp env d op K Kp) (K V.und none):=by
 simp only [neG,eM0,grdK]
@[simp] theorem neG_some_h {d op s want} {K Kp:V->Option Eff->Prop}:neG P hp env ⟨d,some (s,want),op⟩ K Kp=bc0 env s (hold fun v=>grdK v want (hold (ne P hp env d op K Kp)) (hold (K V.und none))):=neG_some
section
variable {ss:List Nat} {K:Env->Hp->Prop} {Kp:V->Hp->Prop} {j:Nat} {log:List Lg} {deps:List Nat} {is:List (I × List Nat)} {d:Option Nat}
def bY0 (P:Program) (ss:List Nat) (K:Env->Hp->Prop) (Kp:V->Hp->Prop) (j:Nat) (deps:List Nat) (is:List (I × List Nat)) (d:Option Nat) (env:Env) (hp:Hp) (log:List Lg) (v:V) (e:Option Eff):Prop :=
 okE deps log e (Eff.nd d e)=true/\vcD P ss K Kp (j + 1) is (env.put d v) (Eff.after hp e) (logE j e (Eff.nd d e) log)
def aX0 (P:Program) (j0 j:Nat) (deps:List Nat) (is:List (I × List Nat)) (d:Option Nat) (env:Env) (hp:Hp) (log:List Lg) (v:V) (e:Option Eff):Prop :=
 okE deps log e (Eff.nd d e)=true/\Eff.wrs e=[]/\vcDp P j0 (j + 1) is (env.put d v) (Eff.after hp e) (logE j e (Eff.nd d e) log)
def panD (P:Program) (ss:List Nat) (Kp:V->Hp->Prop) (j:Nat) (deps:List Nat) (is:List (I × List Nat)) (d:Option Nat) (env:Env) (hp:Hp) (log:List Lg) (v:V) (e:Option Eff):Prop :=
 okE deps log (some ⟨[],Eff.wrs e,false,hp⟩) d=true/\(log.all fun l=>l.wr.isEmpty || deps.contains l.k)=true/\Kp v (Hp.outS ss (Eff.after hp e)) /\
  vcDp P j (j + 1) is env (Eff.after hp e) (logE j (some ⟨[],Eff.wrs e,false,hp⟩) d log)
theorem vcD_nil:vcD P ss K Kp j [] env hp log=K env hp:=_root_.id rfl
@[simp] theorem vcD_cons_h {i}:vcD P ss K Kp j ((i,deps) :: is) env hp log=neG P hp env i (hold (bY0 P ss K Kp j deps is i.d env hp log)) (hold (panD P ss Kp j deps is i.d env hp log)):=_root_.id rfl
theorem vcDp_nil {j0}:vcDp P j0 j [] env hp log=True:=_root_.id rfl
@[simp] theorem vcDp_cons_h {j0 i}:vcDp P j0 j ((i,deps) :: is) env hp log=if deps.contains j0 then vcDp P j0 (j + 1) is env hp log else neG P hp env i (hold (aX0 P j0 j deps is i.d env hp log)) (hold fun _ _=>False):=_root_.id rfl
@[simp] theorem stepD_none {v}:bY0 P ss K Kp j deps is d env hp log v none=vcD P ss K Kp (j + 1) is (env.put d v) hp log:=by simp [bY0,okE,Eff.nd,Eff.after,logE]
@[simp] theorem stepD_some {v rd wr nw h}:bY0 P ss K Kp j deps is d env hp log v (some ⟨rd,wr,nw,h⟩)=(okE deps log (some ⟨rd,wr,nw,h⟩) (if nw then d else none)=true/\vcD P ss K Kp (j + 1) is (env.put d v) h (⟨j,rd++wr,wr,if nw then d else none⟩ :: log)):=_root_.id rfl
@[simp] theorem stepDp_none {j0 v}:aX0 P j0 j deps is d env hp log v none=vcDp P j0 (j + 1) is (env.put d v) hp log:=by simp [aX0,okE,Eff.nd,Eff.after,logE,Eff.wrs]
@[simp] theorem stepDp_some {j0 v rd wr nw h}:aX0 P j0 j deps is d env hp log v (some ⟨rd,wr,nw,h⟩)=(okE deps log (some ⟨rd,wr,nw,h⟩) (if nw then d else none)=true/\wr=[]/\vcDp P j0 (j + 1) is (env.put d v) h (⟨j,rd++wr,wr,if nw then d else none⟩ :: log)):=_root_.id rfl
@[simp] theorem panD_some {v rd wr nw h}:panD P ss Kp j deps is d env hp log v (some ⟨rd,wr,nw,h⟩)=(okE deps log (some ⟨[],wr,false,hp⟩) d=true/\(log.all fun l=>l.wr.isEmpty || deps.contains l.k)=true/\Kp v (Hp.outS ss h)/\vcDp P j (j + 1) is env h (⟨j,wr,wr,d⟩ :: log)):=_root_.id rfl
@[simp] theorem vcDR_eq_h {r}:vcDR P env hp r K Kp=vcD P (newS r.any) (hold fun env' hp'=>vcIs P env' hp' r.rest K Kp) Kp 0 r.any (Env.g60 (newS r.any) env) (Hp.g60 (newS r.any) hp) []:=_root_.id rfl
@[simp] theorem okE_nil {f nd}:(okE deps [] (some f) nd=true)=True:=by simp [okE]
@[simp] theorem okE_cons {l rd wr nw h nd}:(okE deps (l :: log) (some ⟨rd,wr,nw,h⟩) nd=true)=(ok1 deps l (rd++wr) wr nd=true/\okE deps log (some ⟨rd,wr,nw,h⟩) nd=true):=by simp [okE]
@[simp] theorem ok1_eq {k tch' wr' nd' tch wr nd}:(ok1 deps ⟨k,tch',wr',nd'⟩ tch wr nd=true)=((tch'.any fun i=>i.at nd)=false/\(deps.contains k=true\/((tch'.any fun i=>wr.contains i)=false/\(tch.any fun i=>wr'.contains i || i.at nd')=false))):=by
 simp only [ok1,Bool.and_eq_true,Bool.or_eq_true,Bool.not_eq_true',Bool.or_eq_false_iff]
end
section
variable {Q:Qs}
theorem vc_skip:vc P .skip env hp Q=Q .normal env hp:=_root_.id rfl
@[simp] theorem vc_reg_h {is}:vc P (.reg is) env hp Q=vcIs P env hp is (hold fun e h=>Q .normal e h) (hold fun v h=>Q (.pan v) (stab (is.map I.d) env) h):=_root_.id rfl
@[simp] theorem vc_dreg_h {r}:vc P (.dreg r) env hp Q=vcDR P env hp r (hold fun e h=>Q .normal e h) (hold fun v h=>Q (.pan v) (stab ((r.any.map (·.1)++r.rest).map I.d) env) h):=_root_.id rfl
@[simp] theorem vc_areg_h {t rest ds}:vc P (.areg t rest ds) env hp Q=vcT P (hold fun e h=>vcIs P e h rest (fun e h=>Q .normal e h) fun v h=>Q (.pan v) (stab ds env) h) (hold fun v h=>Q (.pan v) (stab ds env) h) t env hp:=_root_.id rfl
@[simp] theorem vcT_done {K:Env->Hp->Prop} {Kp:V->Hp->Prop}:vcT P K Kp .done env hp=K env hp:=_root_.id rfl
@[simp] theorem vcT_nil {K:Env->Hp->Prop} {Kp:V->Hp->Prop}:vcT P K Kp .nil env hp=True:=_root_.id rfl
@[simp] theorem vcT_alt_h {K:Env->Hp->Prop} {Kp:V->Hp->Prop} {i sub more}:vcT P K Kp (.alt i sub more) env hp=(vcI P env hp i (hold fun e h=>vcT P K Kp sub e h) Kp/\vcT P K Kp more env hp):=_root_.id rfl
@[simp] theorem vcT_take_h {K:Env->Hp->Prop} {Kp:V->Hp->Prop} {i sub}:vcT P K Kp (.take i sub) env hp=vcI P env hp i (hold fun e h=>vcT P K Kp sub e h) Kp:=_root_.id rfl
@[simp] theorem vc_seq_h {a b}:vc P (.seq a b) env hp Q=vc P a env hp (hold (l80 (fun e h=>vc P b e h Q) Q)):=_root_.id rfl
theorem vc_cond {c t e}:vc P (.cond c t e) env hp Q=evK env c fun v=>bC0 v fun b=>(b=true->vc P t env hp Q)/\(b=false->vc P e env hp Q):=by
 simp only [vc,bU0,ok0]
@[simp] theorem vc_cond_h {c t e}:vc P (.cond c t e) env hp Q=evK env c (hold fun v=>bC0 v (hold fun b=>iteK b (hold (vc P t env hp Q)) (hold (vc P e env hp Q)))):=vc_cond
theorem vc_blk_h {id b}:vc P (.blk id b) env hp Q=vc P b env hp (hold (blkQ id Q)):=_root_.id rfl
theorem vc_exit {id}:vc P (.exit id) env hp Q=Q (.exit id) env hp:=_root_.id rfl
theorem vc_ret {P:Program}:vc P .ret env hp Q=Q .ret env hp:=_root_.id rfl
def b20 (P:Program) (b:Cd) (env:Env) (hp:Hp) (Q:Qs):Prop:=∃ I:Nat->Env->Hp->Prop,(∃ m E h,I m E h/\Wk E h env hp) /\
   ∀ m E h,I m E h->vc P b E h (l80 (fun e' h'=>∃ m' E' h'',m' < m/\I m' E' h''/\Wk E' h'' e' h') Q)
theorem vc_loop {b}:vc P (.loop b) env hp Q=b20 P b env hp Q:=_root_.id rfl
theorem qf0 {K:Env->Hp->Prop}:l80 K Q .normal env hp=K env hp:=_root_.id rfl
theorem st0 {K:Env->Hp->Prop} {i}:l80 K Q (.exit i) env hp=Q (.exit i) env hp:=_root_.id rfl
theorem thenQ_ret {K:Env->Hp->Prop}:l80 K Q .ret env hp=Q .ret env hp:=_root_.id rfl
theorem thenQ_pan {K:Env->Hp->Prop} {v}:l80 K Q (.pan v) env hp=Q (.pan v) env hp:=_root_.id rfl
theorem qq0 {id}:blkQ id Q .normal env hp=Q .normal env hp:=_root_.id rfl
theorem blkQ_exit {id i}:blkQ id Q (.exit i) env hp=if i=id then Q .normal env hp else Q (.exit i) env hp:=_root_.id rfl
theorem blkQ_ret {id}:blkQ id Q .ret env hp=Q .ret env hp:=_root_.id rfl
theorem blkQ_pan {id v}:blkQ id Q (.pan v) env hp=Q (.pan v) env hp:=_root_.id rfl
end
section
variable {rs:List IOp} {Q:Res->Prop}
theorem pvK_mv {x K}:pvK env hp (.mv x) K=evK env x K:=_root_.id rfl
@[simp] theorem pvK_ld_h {x K}:pvK env hp (.ld x) K=evK env x (hold fun v=>ldK hp v K):=_root_.id rfl
@[simp] theorem pvK_lda_h {sz x K}:pvK env hp (.lda sz x) K=evK env x (hold fun v=>ldaK hp sz v K):=_root_.id rfl
theorem resV_nil {ρ K}:resV hp ρ [] K=K []:=_root_.id rfl
@[simp] theorem resV_cons_h {r rs K}:resV hp (Env.ev env) (r :: rs) K=pvK env hp r (hold fun v=>resV hp (Env.ev env) rs (hold fun vs=>K (v :: vs))):=by0 (hp:=hp) r _
@[simp] theorem retP_ret_h:retP rs Q .ret env hp=resV hp (Env.ev env) rs (hold fun vs=>V.view (Hp.frz (lx0 vs) hp) (lx0 vs) (hold fun u=>u.pure=true/\Q (.ret u []))):=_root_.id rfl
end
end Go.Am
end

section
namespace Go.Am
variable {P:Program} {n:Nat} {env:Env} {hp:Hp}
attribute [simp] sx0 q00 vcOp_call ne_call vcI_none vcIs_nil neG_none vcD_nil vcDp_nil vc_skip vc_blk_h vc_exit vc_ret vc_loop qf0 st0 thenQ_ret thenQ_pan qq0 blkQ_exit blkQ_ret blkQ_pan pvK_mv resV_nil
section
variable {K:V->Prop} {Ks:List V->Prop} {Ki:IntKind->Int->Prop}
@[simp] theorem lookK_cons {s t:Nat} {v:V} {e:Env}:bc0 ((s,v) :: e) t K=if t=s then K v else bc0 e t K:=_root_.id rfl
@[simp] theorem lookK_nil {t:Nat}:bc0 [] t K=False:=_root_.id rfl
@[simp] theorem evK_tmp {t}:evK env (.tmp t) K=bc0 env t K:=_root_.id rfl
@[simp] theorem evK_const {c}:evK env (.const c) K=K (ofConst c):=_root_.id rfl
@[simp] theorem evK_func {f}:evK env (.func f) K=K (.fn f []):=_root_.id rfl
@[simp] theorem evsK_nil:evsK env [] Ks=Ks []:=_root_.id rfl
@[simp] theorem evsK_cons_h {x xs}:evsK env (x :: xs) Ks=evK env x (hold fun v=>evsK env xs (hold fun vs=>Ks (v :: vs))):=_root_.id rfl
@[simp] theorem nthK_zero {v vs}:nthK (v :: vs) 0 K=K v:=_root_.id rfl
@[simp] theorem nthK_succ {v vs m}:nthK (v :: vs) (m + 1) K=nthK vs m K:=_root_.id rfl
@[simp] theorem objK_cons {i j:Id} {o:Ob} {Ko:Ob->Prop}:objK ((i,o) :: hp) j Ko=if j=i then Ko o else objK hp j Ko:=_root_.id rfl
@[simp] theorem objK_nil {j:Id} {Ko:Ob->Prop}:objK [] j Ko=False:=_root_.id rfl
@[simp] theorem boxK_box {cs}:boxK (.box cs) Ks=Ks cs:=_root_.id rfl
@[simp] theorem rowK_row {ty sz own xs Kr}:rowK (.row ty sz own xs) Kr=Kr ty sz own xs:=_root_.id rfl
@[simp] theorem boolK_bool {b} {Kb:Bool->Prop}:bC0 (.c (.bool b)) Kb=Kb b:=_root_.id rfl
@[simp] theorem intK_int {k m}:intK (.c (.int k m)) Ki=Ki k m:=_root_.id rfl
@[simp] theorem strK_string {s} {Kb:ByteArray->Prop}:strK (.c (.string s)) Kb=Kb s:=_root_.id rfl
@[simp] theorem aggK_agg {cs}:aggK (.agg cs) Ks=Ks cs:=_root_.id rfl
@[simp] theorem fnK_fn {f cs} {Kf:Nat->List V->Prop}:fnK (.fn f cs) Kf=Kf f cs:=_root_.id rfl
@[simp] theorem ifcK_ifc {t v} {Kf:Nat->V->Prop}:ifcK (.ifc t v) Kf=Kf t v:=_root_.id rfl
@[simp] theorem cellsK_agg {cs}:ay0 (.agg cs) Ks=Ks cs:=by simp [ay0,V.cells]
@[simp] theorem cellsK_int {k m}:ay0 (.c (.int k m)) Ks=Ks [.c (.int k m)]:=by simp [ay0,V.cells]
@[simp] theorem cellsK_bool {b}:ay0 (.c (.bool b)) Ks=Ks [.c (.bool b)]:=by simp [ay0,V.cells]
@[simp] theorem cellsK_string {b}:ay0 (.c (.string b)) Ks=Ks [.c (.string b)]:=by simp [ay0,V.cells]
@[simp] theorem cellsK_nil:ay0 .nil Ks=Ks [.nil]:=by simp [ay0,V.cells]
@[simp] theorem cellsK_lst {xs}:ay0 (.lst xs) Ks=Ks [.lst xs]:=by simp [ay0,V.cells]
@[simp] theorem cellsK_bp {i o}:ay0 (.bp i o) Ks=Ks [.bp i o]:=by simp [ay0,V.cells]
@[simp] theorem cellsK_arr {i o m}:ay0 (.arr i o m) Ks=Ks [.arr i o m]:=by simp [ay0,V.cells]
@[simp] theorem cellsLK_nil {Kl:List (List V)->Prop}:az0 [] Kl=Kl []:=by simp [az0]
theorem pm0 {v vs} {Kl:List (List V)->Prop}:az0 (v :: vs) Kl=ay0 v fun us=>az0 vs fun uss=>Kl (us :: uss):=by
 simp only [az0,ay0,List.mapM_cons]; apply propext
 constructor
 ·rintro ⟨els,h1,h2⟩
  simp only [Option.bind_eq_bind,Option.bind_eq_some_iff,Option.pure_def,Option.some.injEq] at h1
  obtain ⟨v,h1,us,h3,rfl⟩:=h1
  exact ⟨v,h1,us,h3,h2⟩
 ·rintro ⟨us,h1,uss,h2,h3⟩; exact ⟨us :: uss,by simp [h1,h2],h3⟩
@[simp] theorem cellsLK_cons_h {v vs} {Kl:List (List V)->Prop}:az0 (v :: vs) Kl=ay0 v (hold fun us=>az0 vs (hold fun uss=>Kl (us :: uss))):=pm0
@[simp] theorem ldK_rp {cs}:ldK hp (.rp cs) K=nthK cs 0 K:=_root_.id rfl
@[simp] theorem ldK_bp_h {i off}:ldK hp (.bp i off) K=objK hp i (hold fun o=>boxK o (hold fun cs=>nthK cs off K)):=_root_.id rfl
@[simp] theorem ldK_ep_h {i k off}:ldK hp (.ep i k off) K=objK hp i (hold fun o=>rowK o (hold fun _ _ _ xs=>fW0 xs k (hold fun e=>nthK e off K))):=_root_.id rfl
@[simp] theorem ldaK_rp {sz cs}:ldaK hp sz (.rp cs) K=(sz<=cs.length/\K (.agg (cs.take sz))):=_root_.id rfl
@[simp] theorem ldaK_bp_h {sz i off}:ldaK hp sz (.bp i off) K=objK hp i (hold fun o=>boxK o (hold fun cs=>off + sz<=cs.length/\K (.agg ((cs.drop off).take sz)))):=_root_.id rfl
@[simp] theorem iaK_lst_h {sz xs i}:iaK hp sz (.lst xs) i K=(0<=i/\fW0 xs i.toNat (hold fun e=>e.length=sz/\K (.rp e))):=_root_.id rfl
@[simp] theorem iaK_arr_h {sz id o m i}:iaK hp sz (.arr id o m) i K=(0<=i/\i < m/\objK hp id (hold fun ob=>rowK ob (hold fun _ sz' _ _=>sz'=sz/\K (.ep id (o + i.toNat) 0)))):=_root_.id rfl
@[simp] theorem stK_bp_h {us i off} {Kh:Hp->Prop}:stK hp us (.bp i off) Kh=objK hp i (hold fun o=>boxK o (hold fun cs=>off + us.length<=cs.length/\Kh (Hp.set i (.box (setAt cs off us)) hp))):=_root_.id rfl
@[simp] theorem stK_ep_h {us i k off} {Kh:Hp->Prop}:stK hp us (.ep i k off) Kh=objK hp i (hold fun o=>rowK o (hold fun ty sz own xs=>own=true/\fW0 xs k (hold fun e=>off + us.length<=e.length/\V.bt0 us=true/\Kh (Hp.set i (.row ty sz true (xs.set k (setAt e off us))) hp)))):=_root_.id rfl
@[simp] theorem srcK_lst {sz ys} {Kl:List (List V)->Prop}:srcK hp sz (.lst ys) Kl=((ys=[]\/∃ e,ys[0]?=some e/\e.length=sz)/\Kl ys):=_root_.id rfl
@[simp] theorem srcK_arr_h {sz j o m} {Kl:List (List V)->Prop}:srcK hp sz (.arr j o m) Kl=objK hp j (hold fun ob=>rowK ob (hold fun _ sz' _ xs=>sz'=sz/\o + m<=xs.length/\Kl ((xs.drop o).take m))):=_root_.id rfl
section
variable {ty sz bytes d m:Nat} {es:List (List V)} {Kf:Env->Hp->Prop} {Kv:V->Prop} {Kl:List (List V)->Hp->Prop}
theorem appGV_arr {i o k}:bs0 env hp ty sz bytes d (.arr i o k) es Kf=(o=0/\objK hp i fun ob=>rowK ob fun ty' sz' own xs=>ty'=ty/\sz'=sz/\own=true/\k<=xs.length/\(k + es.length) * bytes<=140737488355328 /\
   Kf ((Env.kill (.l d 0) env).put (some d) (.arr (.l d 0) 0 (k + es.length))) ((.l d 0,.row ty sz true (xs.take k++es)) :: Hp.kill (.l d 0) (Hp.set i .gone hp))):=by
 simp only [bs0,fg0]; apply propext
 constructor
 ·rintro ⟨h0,xs,h1,h2⟩; exact ⟨h0,ty,sz,true,xs,h1,rfl,rfl,rfl,h2⟩
 ·rintro ⟨h0,ty',sz',own,xs,h1,rfl,rfl,rfl,h2⟩; exact ⟨h0,xs,h1,h2⟩
@[simp] theorem appGV_arr_h {i o k}:bs0 env hp ty sz bytes d (.arr i o k) es Kf=(o=0/\objK hp i (hold fun ob=>rowK ob (hold fun ty' sz' own xs=>ty'=ty/\sz'=sz/\own=true/\k<=xs.length/\(k + es.length) * bytes<=140737488355328 /\
   Kf ((Env.kill (.l d 0) env).put (some d) (.arr (.l d 0) 0 (k + es.length))) ((.l d 0,.row ty sz true (xs.take k++es)) :: Hp.kill (.l d 0) (Hp.set i .gone hp))))):=appGV_arr
@[simp] theorem iaAV_bp {j o k i}:iaAV m sz (.bp j o) (.c (.int k i)) Kv=(0<=i/\i < (m:Int)/\Kv (.bp j (o + i.toNat * sz))):=_root_.id rfl
theorem slAV_bp {i o}:slAV hp m sz (.bp i o) Kl=(o=0/\objK hp i fun ob=>boxK ob fun cs=>cs.length=m * sz/\V.bt0 cs=true/\scalars cs=true/\Kl (chunk m sz cs) (Hp.set i .gone hp)):=by
 simp only [slAV,ol0]
@[simp] theorem slAV_bp_h {i o}:slAV hp m sz (.bp i o) Kl=(o=0/\objK hp i (hold fun ob=>boxK ob (hold fun cs=>cs.length=m * sz/\V.bt0 cs=true/\scalars cs=true/\Kl (chunk m sz cs) (Hp.set i .gone hp)))):=slAV_bp
end
section
variable {ty sz bytes d:Nat} {u:V} {Kf:Env->Hp->Prop}
theorem appK_nil:appK env hp ty sz bytes d .nil u Kf=srcK hp sz u fun es=>es.length * bytes<=140737488355328 /\
   Kf ((Env.kill (.l d 0) env).put (some d) (.arr (.l d 0) 0 es.length)) ((.l d 0,.row ty sz true es) :: Hp.kill (.l d 0) hp):=_root_.id rfl
@[simp] theorem appK_nil_h:appK env hp ty sz bytes d .nil u Kf=srcK hp sz u (hold fun es=>es.length * bytes<=140737488355328 /\
   Kf ((Env.kill (.l d 0) env).put (some d) (.arr (.l d 0) 0 es.length)) ((.l d 0,.row ty sz true es) :: Hp.kill (.l d 0) hp)):=appK_nil
theorem appK_arr {i o m}:appK env hp ty sz bytes d (.arr i o m) u Kf=(o=0/\objK hp i fun ob=>rowK ob fun ty' sz' own xs=>ty'=ty/\sz'=sz/\own=true/\m<=xs.length/\srcK hp sz u fun es=>(m + es.length) * bytes<=140737488355328 /\
   Kf ((Env.kill (.l d 0) env).put (some d) (.arr (.l d 0) 0 (m + es.length))) ((.l d 0,.row ty sz true (xs.take m++es)) :: Hp.kill (.l d 0) (Hp.set i .gone hp))):=_root_.id rfl
@[simp] theorem appK_arr_h {i o m}:appK env hp ty sz bytes d (.arr i o m) u Kf=(o=0/\objK hp i (hold fun ob=>rowK ob (hold fun ty' sz' own xs=>ty'=ty/\sz'=sz/\own=true/\m<=xs.length/\srcK hp sz u (hold fun es=>(m + es.length) * bytes<=140737488355328 /\
   Kf ((Env.kill (.l d 0) env).put (some d) (.arr (.l d 0) 0 (m + es.length))) ((.l d 0,.row ty sz true (xs.take m++es)) :: Hp.kill (.l d 0) (Hp.set i .gone hp)))))):=appK_arr
end
section
variable {ty sz bytes d:Nat} {u:V} {Kf:Env->Hp->Prop}
@[simp] theorem appz_nil {z k v}:bI0 env hp ty sz bytes z d .nil (.c (.int k v)) Kf=(0 < v/\v * bytes<=140737488355328/\v<=140737488355328/\Kf ((Env.kill (.l d 0) env).put (some d) (.arr (.l d 0) 0 v.toNat)) ((.l d 0,.row ty sz true (List.replicate v.toNat z)) :: Hp.kill (.l d 0) hp)):=_root_.id rfl
end
@[simp] theorem unarc_lst {xs}:V.kw0 (.lst xs)=.lst xs:=_root_.id rfl
section
variable {Kc:Int->Hp->Prop} {Kh:Hp->Prop}
theorem cpy_arr0 {sz i o m u}:cpyV hp sz (.arr i o m) u Kc=objK hp i fun ob=>rowK ob fun ty sz' own xs=>sz'=sz/\own=true/\srcK hp sz u.kw0 fun es=>o + min es.length m<=xs.length/\Kc (min es.length m:Nat) (Hp.set i (.row ty sz true (xs.take o++es.take (min es.length m)++xs.drop (o + min es.length m))) hp):=by
 rw [fg0]
 simp only [cpyV,V.kw0,nd0]
 apply propext
 constructor
 ·rintro ⟨ty,xs,h1,h2⟩; exact ⟨ty,sz,true,xs,h1,rfl,rfl,h2⟩
 ·rintro ⟨ty,sz',own,xs,h1,rfl,rfl,h2⟩; exact ⟨ty,xs,h1,h2⟩
@[simp] theorem cpy_arr {sz i o m u}:cpyV hp sz (.arr i o m) u Kc=objK hp i (hold fun ob=>rowK ob (hold fun ty sz' own xs=>sz'=sz/\own=true/\srcK hp sz u.kw0 (hold fun es=>o + min es.length m<=xs.length/\Kc (min es.length m:Nat) (Hp.set i (.row ty sz true (xs.take o++es.take (min es.length m)++xs.drop (o + min es.length m))) hp)))):=cpy_arr0
theorem mput_mp0 {kd i kv x}:pS0 hp kd (.mp i) (.c kv) x Kh=(isKey kd kv=true/\x.pure=true/\objK hp i fun ob=>mpoK ob fun kd' kvs=>kd'=kd/\Kh (Hp.set i (.mpo kd (mset kv x kvs)) hp)):=by
 rw [mpoK_eq]
 simp only [pS0]
 apply propext
 constructor
 ·rintro ⟨h1,h2,kvs,h3,h4⟩; exact ⟨h1,h2,kd,kvs,h3,rfl,h4⟩
 ·rintro ⟨h1,h2,kd',kvs,h3,rfl,h4⟩; exact ⟨h1,h2,kvs,h3,h4⟩
@[simp] theorem mput_mp {kd i kv x}:pS0 hp kd (.mp i) (.c kv) x Kh=(isKey kd kv=true/\x.pure=true/\objK hp i (hold fun ob=>mpoK ob (hold fun kd' kvs=>kd'=kd/\Kh (Hp.set i (.mpo kd (mset kv x kvs)) hp)))):=mput_mp0
theorem mget_mp0 {kd z ok i kv}:pR0 hp kd z ok (.mp i) (.c kv) K=(isKey kd kv=true/\objK hp i fun ob=>mpoK ob fun kd' kvs=>kd'=kd/\j50 kv kvs (mres z ok K)):=by
 rw [mpoK_eq]
 simp only [pR0]
 apply propext
 constructor
 ·rintro ⟨h1,kvs,h3,h4⟩; exact ⟨h1,kd,kvs,h3,rfl,h4⟩
 ·rintro ⟨h1,kd',kvs,h3,rfl,h4⟩; exact ⟨h1,kvs,h3,h4⟩
@[simp] theorem mget_mp {kd z ok i kv}:pR0 hp kd z ok (.mp i) (.c kv) K=(isKey kd kv=true/\objK hp i (hold fun ob=>mpoK ob (hold fun kd' kvs=>kd'=kd/\j50 kv kvs (hold (mres z ok K))))):=mget_mp0
end
@[simp] theorem mpoK_mpo {kd kvs} {Km:Option IntKind->List (Value × V)->Prop}:mpoK (.mpo kd kvs) Km=Km kd kvs:=_root_.id rfl
@[simp] theorem mfindK_nil {k} {Ko:Option V->Prop}:j50 k [] Ko=Ko none:=_root_.id rfl
theorem pP0 {k k' v es} {Ko:Option V->Prop}:j50 k ((k',v) :: es) Ko=iteK (hF0 k k') (Ko (some v)) (j50 k es Ko):=_root_.id rfl
@[simp] theorem mfindK_cons {k k' v es} {Ko:Option V->Prop}:j50 k ((k',v) :: es) Ko=iteK (hF0 k k') (hold (Ko (some v))) (hold (j50 k es Ko)):=pP0
@[simp] theorem keyEq_int {k k' a b}:hF0 (.int k a) (.int k' b)=decide (a=b):=by
 simp only [hF0]; rw [Bool.eq_iff_iff]; simp
@[simp] theorem isKey_int {k k' a}:isKey (some k) (.int k' a)=decide (k'=k):=_root_.id rfl
@[simp] theorem mset_nil {k v}:mset k v []=[(k,v)]:=_root_.id rfl
@[simp] theorem mset_cons {k v k' u es}:mset k v ((k',u) :: es)=if hF0 k k' then (k',v) :: es else (k',u) :: mset k v es:=_root_.id rfl
@[simp] theorem mres_none {z ok}:mres z ok K none=K (if ok then .tup [ofConst z,.c (.bool false)] else ofConst z):=_root_.id rfl
@[simp] theorem mres_some {z ok v}:mres z ok K (some v)=K (if ok then .tup [v,.c (.bool true)] else v):=_root_.id rfl
@[simp] theorem isnlV_nil {Kb:Bool->Prop}:pC0 .nil Kb=Kb true:=_root_.id rfl
@[simp] theorem isnlV_lst {xs} {Kb:Bool->Prop}:pC0 (.lst xs) Kb=(Kb false/\(xs=[]\/xs[0]?=some []->Kb true)):=_root_.id rfl
@[simp] theorem capV_nil {Kb:Int->Prop}:capV .nil Kb=Kb 0:=_root_.id rfl
@[simp] theorem nchkV_bp {i o}:nC0 (.bp i o) K=K (.bp i o):=_root_.id rfl
@[simp] theorem faV_bp {off i o}:faV off (.bp i o) K=K (.bp i (o + off)):=_root_.id rfl
@[simp] theorem faV_rp {off cs}:faV off (.rp cs) K=K (.rp (cs.drop off)):=_root_.id rfl
@[simp] theorem extV_tup {i cs}:extV i (.tup cs) K=nthK cs i K:=by simp only [extV,iO0]
@[simp] theorem lenV_nil:lenV .nil K=K (.c (.int .i64 0)):=_root_.id rfl
@[simp] theorem lenV_lst {xs}:lenV (.lst xs) K=K (.c (.int .i64 (xs.length:Int))):=_root_.id rfl
@[simp] theorem lenV_arr {i o m}:lenV (.arr i o m) K=K (.c (.int .i64 (m:Int))):=_root_.id rfl
section
variable {k:IntKind} {a b:Int}
@[simp] theorem bin_add:binV .add (.c (.int k a)) (.c (.int k b)) K=K (.c (.int k (k.wrap (a + b)))):=by simp [binV,binI]
@[simp] theorem bin_sub:binV .sub (.c (.int k a)) (.c (.int k b)) K=K (.c (.int k (k.wrap (a - b)))):=by simp [binV,binI]
@[simp] theorem bin_mul:binV .mul (.c (.int k a)) (.c (.int k b)) K=K (.c (.int k (k.wrap (a * b)))):=by simp [binV,binI]
@[simp] theorem bin_quo:binV .quo (.c (.int k a)) (.c (.int k b)) K=(b ≠ 0/\K (.c (.int k (k.wrap (a.tdiv b))))):=by simp [binV,binI]
@[simp] theorem bin_rem:binV .rem (.c (.int k a)) (.c (.int k b)) K=(b ≠ 0/\K (.c (.int k (a.tmod b)))):=by simp [binV,binI]
@[simp] theorem bin_eql:binV .eql (.c (.int k a)) (.c (.int k b)) K=K (.c (.bool (a == b))):=by simp [binV,binI]
@[simp] theorem bin_neq:binV .neq (.c (.int k a)) (.c (.int k b)) K=K (.c (.bool (a != b))):=by simp [binV,binI]
@[simp] theorem bin_lss:binV .lss (.c (.int k a)) (.c (.int k b)) K=K (.c (.bool (a < b))):=by simp [binV,binI]
@[simp] theorem bin_leq:binV .leq (.c (.int k a)) (.c (.int k b)) K=K (.c (.bool (a<=b))):=by simp [binV,binI]
@[simp] theorem bin_gtr:binV .gtr (.c (.int k a)) (.c (.int k b)) K=K (.c (.bool (a > b))):=by simp [binV,binI]
@[simp] theorem bin_geq:binV .geq (.c (.int k a)) (.c (.int k b)) K=K (.c (.bool (a>=b))):=by simp [binV,binI]
end
section
variable {a b:ByteArray}
@[simp] theorem bins_add:binV .add (.c (.string a)) (.c (.string b)) K=(a.size + b.size<=9223372036854775807/\K (.c (.string (a++b)))):=_root_.id rfl
@[simp] theorem bins_eql:binV .eql (.c (.string a)) (.c (.string b)) K=K (.c (.bool (eqS a b))):=_root_.id rfl
@[simp] theorem bins_neq:binV .neq (.c (.string a)) (.c (.string b)) K=K (.c (.bool (!eqS a b))):=_root_.id rfl
end
@[simp] theorem un_not {b:Bool}:unV .not (.c (.bool b)) K=K (.c (.bool !b)):=_root_.id rfl
@[simp] theorem intO_none {d:Int} {K:Int->Prop}:intO none d K=K d:=_root_.id rfl
@[simp] theorem slSV_string_h {s:ByteArray} {lo hi}:slSV (.c (.string s)) lo hi K=intO hi s.size (hold fun h=>intO lo 0 (hold fun l=>0<=l/\l<=h/\h<=s.size/\K (.c (.string (s.extract l.toNat h.toNat))))):=_root_.id rfl
@[simp] theorem slLV_nil_h {sz lo hi}:slLV hp sz .nil lo hi K=intO hi 0 (hold fun h=>intO lo 0 (hold fun l=>l=0/\h=0/\K .nil)):=_root_.id rfl
theorem slLV_arr {sz id o m lo hi}:slLV hp sz (.arr id o m) lo hi K=objK hp id fun ob=>rowK ob fun _ sz' _ _=>sz'=sz/\intO hi m fun h=>intO lo 0 fun l=>0<=l/\l<=h/\h<=m/\K (.arr id (o + l.toNat) (h.toNat - l.toNat)):=by
 rw [fg0]; simp only [slLV]
 apply propext
 constructor
 ·rintro ⟨⟨ty,own,xs,h1⟩,h2⟩; exact ⟨ty,sz,own,xs,h1,rfl,h2⟩
 ·rintro ⟨ty,sz',own,xs,h1,rfl,h2⟩; exact ⟨⟨ty,own,xs,h1⟩,h2⟩
@[simp] theorem slLV_arr_h {sz id o m lo hi}:slLV hp sz (.arr id o m) lo hi K=objK hp id (hold fun ob=>rowK ob (hold fun _ sz' _ _=>sz'=sz/\intO hi m (hold fun h=>intO lo 0 (hold fun l=>0<=l/\l<=h/\h<=m/\K (.arr id (o + l.toNat) (h.toNat - l.toNat)))))):=slLV_arr
@[simp] theorem taV_same {t:Nat} {z:Value} {u:V}:taV t z (.ifc t u) K=K (.tup [u,.c (.bool true)]):=by simp [taV]
@[simp] theorem isniV_ifc {t:Nat} {u:V} {Kb:Bool->Prop}:pB0 (.ifc t u) Kb=Kb false:=_root_.id rfl
@[simp] theorem isniV_nil {Kb:Bool->Prop}:pB0 (.c .nilIface) Kb=Kb true:=_root_.id rfl
@[simp] theorem ixAV_c {m:Nat} {cs:List V} {k i}:ixAV m cs (.c (.int k i)) K=(0<=i/\i < (m:Int)/\nthK cs i.toNat K):=by simp [ixAV,iO0]
@[simp] theorem ixSV_string {s:ByteArray} {k i}:ixSV (.c (.string s)) (.c (.int k i)) K=(0<=i/\∃ b,s.data.toList[i.toNat]?=some b/\K (.c (.int .u8 b.toNat))):=_root_.id rfl
@[simp] theorem fillV_nil {z}:hZ0 (Env.ev env) [] z Ks=Ks z:=_root_.id rfl
theorem r10 {off sz x ps z}:hZ0 (Env.ev env) ((off,sz,x) :: ps) z Ks=evK env x fun v=>ay0 v fun us=>us.length=sz/\off + sz<=z.length/\hZ0 (Env.ev env) ps (setAt z off us) Ks:=by
 simp only [hZ0,bU0,ay0]; apply propext
 exact ⟨fun ⟨v,us,h1,h2,h3⟩=>⟨v,h1,us,h2,h3⟩,fun ⟨v,h1,us,h2,h3⟩=>⟨v,us,h1,h2,h3⟩⟩
@[simp] theorem fillV_cons_h {off sz x ps z}:hZ0 (Env.ev env) ((off,sz,x) :: ps) z Ks=evK env x (hold fun v=>ay0 v (hold fun us=>us.length=sz/\off + sz<=z.length/\hZ0 (Env.ev env) ps (setAt z off us) Ks)):=r10
@[simp] theorem ofConst_int {k m}:ofConst (.int k m)=.c (.int k m):=_root_.id rfl
@[simp] theorem ofConst_bool {b}:ofConst (.bool b)=.c (.bool b):=_root_.id rfl
@[simp] theorem ofConst_string {b}:ofConst (.string b)=.c (.string b):=_root_.id rfl
@[simp] theorem ofConst_nil:ofConst (.slice none 0 0)=.nil:=_root_.id rfl
@[simp] theorem ofConst_agg {vs}:ofConst (.agg vs)=.agg (vs.toList.map kT0):=_root_.id rfl
@[simp] theorem ofCell_int {k m}:kT0 (.int k m)=.c (.int k m):=_root_.id rfl
@[simp] theorem ofCell_string {b}:kT0 (.string b)=.c (.string b):=_root_.id rfl
@[simp] theorem ofCell_nil:kT0 (.slice none 0 0)=.nil:=_root_.id rfl
end
@[simp] theorem put_some' {e:Env} {s v}:Env.put e (some s) v=(s,v) :: e:=_root_.id rfl
@[simp] theorem put_none' {e:Env} {v}:Env.put e none v=e:=_root_.id rfl
@[simp] theorem killE_nil {i}:Env.kill i []=[]:=_root_.id rfl
@[simp] theorem killE_cons {i s v} {e:Env}:Env.kill i ((s,v) :: e)=(s,v.kill i) :: Env.kill i e:=_root_.id rfl
@[simp] theorem killH_nil {i}:Hp.kill i []=[]:=_root_.id rfl
@[simp] theorem killH_cons {i j o} {h:Hp}:Hp.kill i ((j,o) :: h)=(j,if j=i then .gone else if o.has i then .gone else o) :: Hp.kill i h:=_root_.id rfl
@[simp] theorem base_bp {i o}:V.base (.bp i o)=[i]:=_root_.id rfl
@[simp] theorem base_ep {i k o}:V.base (.ep i k o)=[i]:=_root_.id rfl
@[simp] theorem base_arr {i o m}:V.base (.arr i o m)=[i]:=_root_.id rfl
@[simp] theorem base_lst {xs}:V.base (.lst xs)=[]:=_root_.id rfl
@[simp] theorem base_rp {xs}:V.base (.rp xs)=[]:=_root_.id rfl
@[simp] theorem rdE_nil {h:Hp}:rdE [] h=none:=_root_.id rfl
@[simp] theorem rdE_cons {i is} {h:Hp}:rdE (i :: is) h=some ⟨i :: is,[],false,h⟩:=_root_.id rfl
@[simp] theorem at_e {d k}:Id.at d (.e k)=false:=_root_.id rfl
@[simp] theorem at_l' {d s q}:Id.at d (.l s q)=(d == some s):=_root_.id rfl
@[simp] theorem inS_e {ss k}:Id.inS ss (.e k)=false:=_root_.id rfl
@[simp] theorem inS_l {ss s q}:Id.inS ss (.l s q)=ss.contains s:=_root_.id rfl
@[simp] theorem killSE_nil {ss}:Env.g60 ss []=[]:=_root_.id rfl
@[simp] theorem killSE_cons {ss s v} {e:Env}:Env.g60 ss ((s,v) :: e)=(s,if v.hasS ss then .any else v) :: Env.g60 ss e:=_root_.id rfl
@[simp] theorem killSH_nil {ss}:Hp.g60 ss []=[]:=_root_.id rfl
@[simp] theorem killSH_cons {ss i o} {h:Hp}:Hp.g60 ss ((i,o) :: h)=if i.inS ss then Hp.g60 ss h else (i,if o.hasS ss then .gone else o) :: Hp.g60 ss h:=by
 simp only [Hp.g60,List.filter_cons]
 cases i.inS ss <;> simp
@[simp] theorem outS_nil {ss}:Hp.outS ss []=[]:=_root_.id rfl
@[simp] theorem outS_cons {ss i o} {h:Hp}:Hp.outS ss ((i,o) :: h)=if i.inS ss then Hp.outS ss h else (i,o) :: Hp.outS ss h:=by
 simp only [Hp.outS,List.filter_cons]
 cases i.inS ss <;> simp
@[simp] theorem onl_nil {T}:Hp.onl T []=[]:=_root_.id rfl
@[simp] theorem onl_cons {T i o} {h:Hp}:Hp.onl T ((i,o) :: h)=if T.contains i then (i,o) :: Hp.onl T h else Hp.onl T h:=by
 simp only [Hp.onl,List.filter_cons]
@[simp] theorem offB_nil {T d}:offB T d []=true:=_root_.id rfl
@[simp] theorem offB_cons {T d i o} {h:Hp}:offB T d ((i,o) :: h)=((T.contains i || i.at d) && offB T d h):=_root_.id rfl
@[simp] theorem newS_nil:newS []=[]:=_root_.id rfl
@[simp] theorem newS_cons {i is}:newS (i :: is)=if i.1.op.mk then (match i.1.d with | some s=>s :: newS is | none=>newS is) else newS is:=by
 obtain ⟨⟨d,g,op⟩,deps⟩:=i
 unfold newS
 rw [List.filterMap_cons]
 cases op.mk <;> cases d <;> simp
attribute [simp] IOp.mk
section
variable {ss:List Nat}
@[simp] theorem hasS_bp {j o}:V.hasS ss (.bp j o)=j.inS ss:=_root_.id (by simp only [V.hasS])
@[simp] theorem hasS_self {j o}:V.hasS ss (.self j o)=j.inS ss:=_root_.id (by simp only [V.hasS])
@[simp] theorem hasS_ep {j k o}:V.hasS ss (.ep j k o)=j.inS ss:=_root_.id (by simp only [V.hasS])
@[simp] theorem hasS_mp {j}:V.hasS ss (.mp j)=j.inS ss:=_root_.id (by simp only [V.hasS])
@[simp] theorem hasS_arr {j o m}:V.hasS ss (.arr j o m)=j.inS ss:=_root_.id (by simp only [V.hasS])
@[simp] theorem hasS_agg {cs}:V.hasS ss (.agg cs)=V.fG0 ss cs:=_root_.id (by simp only [V.hasS])
@[simp] theorem hasS_tup {cs}:V.hasS ss (.tup cs)=V.fG0 ss cs:=_root_.id (by simp only [V.hasS])
@[simp] theorem hasS_ifc {t v}:V.hasS ss (.ifc t v)=V.hasS ss v:=_root_.id (by simp only [V.hasS])
@[simp] theorem hasS_c {v}:V.hasS ss (.c v)=false:=_root_.id (by simp only [V.hasS])
@[simp] theorem hasS_nil:V.hasS ss .nil=false:=_root_.id (by simp only [V.hasS])
@[simp] theorem hasS_lst {xs}:V.hasS ss (.lst xs)=false:=_root_.id (by simp only [V.hasS])
@[simp] theorem hasS_rp {xs}:V.hasS ss (.rp xs)=false:=_root_.id (by simp only [V.hasS])
@[simp] theorem hasSL_nil:V.fG0 ss []=false:=_root_.id (by simp only [V.fG0])
@[simp] theorem hasSL_cons {v vs}:V.fG0 ss (v :: vs)=(V.hasS ss v || V.fG0 ss vs):=_root_.id (by simp only [V.fG0])
@[simp] theorem ob_hasS_gone:Ob.hasS ss .gone=false:=_root_.id rfl
@[simp] theorem ob_hasS_box {cs}:Ob.hasS ss (.box cs)=V.fG0 ss cs:=_root_.id rfl
@[simp] theorem ob_hasS_mpo {kd kvs}:Ob.hasS ss (.mpo kd kvs)=false:=_root_.id rfl
@[simp] theorem ob_hasS_row {ty sz own xs}:Ob.hasS ss (.row ty sz own xs)=false:=_root_.id rfl
end
@[simp] theorem killsE_nil {i}:Env.dg0 i []=[]:=_root_.id rfl
@[simp] theorem killsE_cons {i s v} {e:Env}:Env.dg0 i ((s,v) :: e)=(s,if i.any fun i=>v.has i then .any else v) :: Env.dg0 i e:=_root_.id rfl
@[simp] theorem killsH_nil {i}:Hp.dg0 i []=[]:=_root_.id rfl
@[simp] theorem killsH_cons {i j o} {h:Hp}:Hp.dg0 i ((j,o) :: h)=if i.contains j then Hp.dg0 i h else (j,if i.any fun i=>o.has i then .gone else o) :: Hp.dg0 i h:=by
 simp only [Hp.dg0,List.filter_cons]
 cases i.contains j <;> simp
@[simp] theorem frz_nil {v}:Hp.frz v []=[]:=_root_.id rfl
@[simp] theorem frz_cons {v j o} {h:Hp}:Hp.frz v ((j,o) :: h)=(j,if v.has j then o.frz else o) :: Hp.frz v h:=_root_.id rfl
@[simp] theorem set_nil' {i o}:Hp.set i o []=[]:=_root_.id rfl
@[simp] theorem set_cons' {i o j q} {h:Hp}:Hp.set i o ((j,q) :: h)=(j,if j=i then o else q) :: Hp.set i o h:=by
 simp [Hp.set]
@[simp] theorem Ob.frz_row {ty sz own xs}:Ob.frz (.row ty sz own xs)=.row ty sz false xs:=_root_.id rfl
@[simp] theorem Ob.frz_box {cs}:Ob.frz (.box cs)=.box cs:=_root_.id rfl
@[simp] theorem Ob.frz_gone:Ob.frz .gone=.gone:=_root_.id rfl
@[simp] theorem Ob.has_gone {i}:Ob.has i .gone=false:=_root_.id rfl
@[simp] theorem Ob.has_box {i cs}:Ob.has i (.box cs)=V.hasL i cs:=_root_.id rfl
@[simp] theorem Ob.frz_mpo {kd kvs}:Ob.frz (.mpo kd kvs)=.mpo kd kvs:=_root_.id rfl
@[simp] theorem Ob.has_mpo {i kd kvs}:Ob.has i (.mpo kd kvs)=false:=_root_.id rfl
@[simp] theorem Ob.has_row {i ty sz own xs}:Ob.has i (.row ty sz own xs)=false:=_root_.id rfl
section
variable {i:Id}
@[simp] theorem has_bp {j o}:V.has i (.bp j o)=decide (j=i):=_root_.id (by simp only [V.has])
@[simp] theorem has_self {j o}:V.has i (.self j o)=decide (j=i):=_root_.id (by simp only [V.has])
@[simp] theorem has_ep {j k o}:V.has i (.ep j k o)=decide (j=i):=_root_.id (by simp only [V.has])
@[simp] theorem has_mp {j}:V.has i (.mp j)=decide (j=i):=_root_.id (by simp only [V.has])
@[simp] theorem has_arr {j o m}:V.has i (.arr j o m)=decide (j=i):=_root_.id (by simp only [V.has])
@[simp] theorem has_agg {cs}:V.has i (.agg cs)=V.hasL i cs:=_root_.id (by simp only [V.has])
@[simp] theorem has_fn {f cs}:V.has i (.fn f cs)=V.hasL i cs:=_root_.id (by simp only [V.has])
@[simp] theorem has_tup {cs}:V.has i (.tup cs)=V.hasL i cs:=_root_.id (by simp only [V.has])
@[simp] theorem has_ifc {t v}:V.has i (.ifc t v)=V.has i v:=_root_.id (by simp only [V.has])
@[simp] theorem has_any:V.has i .any=false:=_root_.id (by simp only [V.has])
@[simp] theorem has_c {v}:V.has i (.c v)=false:=_root_.id (by simp only [V.has])
@[simp] theorem has_nil:V.has i .nil=false:=_root_.id (by simp only [V.has])
@[simp] theorem has_lst {xs}:V.has i (.lst xs)=false:=_root_.id (by simp only [V.has])
@[simp] theorem has_rp {xs}:V.has i (.rp xs)=false:=_root_.id (by simp only [V.has])
@[simp] theorem hasL_nil:V.hasL i []=false:=_root_.id (by simp only [V.hasL])
@[simp] theorem hasL_cons {v vs}:V.hasL i (v :: vs)=(V.has i v || V.hasL i vs):=_root_.id (by simp only [V.hasL])
@[simp] theorem pure_agg {cs}:V.pure (.agg cs)=V.bt0 cs:=_root_.id (by simp only [V.pure])
@[simp] theorem pure_fn {f cs}:V.pure (.fn f cs)=V.bt0 cs:=_root_.id (by simp only [V.pure])
@[simp] theorem pure_tup {cs}:V.pure (.tup cs)=V.bt0 cs:=_root_.id (by simp only [V.pure])
@[simp] theorem pure_ifc {t v}:V.pure (.ifc t v)=V.pure v:=_root_.id (by simp only [V.pure])
@[simp] theorem pure_c {v}:V.pure (.c v)=true:=_root_.id (by simp only [V.pure])
@[simp] theorem pure_lst {xs}:V.pure (.lst xs)=true:=_root_.id (by simp only [V.pure])
@[simp] theorem pure_rp {xs}:V.pure (.rp xs)=true:=_root_.id (by simp only [V.pure])
@[simp] theorem pureL_nil:V.bt0 []=true:=_root_.id (by simp only [V.bt0])
@[simp] theorem pureL_cons {v vs}:V.bt0 (v :: vs)=(V.pure v && V.bt0 vs):=_root_.id (by simp only [V.bt0])
end
@[simp] theorem kill_c {i v}:V.kill i (.c v)=.c v:=_root_.id (by simp only [V.kill,V.has]; rfl)
@[simp] theorem kill_nil {i}:V.kill i .nil=.nil:=_root_.id (by simp only [V.kill,V.has]; rfl)
@[simp] theorem kill_lst {i xs}:V.kill i (.lst xs)=.lst xs:=_root_.id (by simp only [V.kill,V.has]; rfl)
@[simp] theorem kill_rp {i xs}:V.kill i (.rp xs)=.rp xs:=_root_.id (by simp only [V.kill,V.has]; rfl)
@[simp] theorem kill_bp {i j o}:V.kill i (.bp j o)=if j=i then .any else .bp j o:=by simp [V.kill,V.has]
@[simp] theorem kill_mp {i j}:V.kill i (.mp j)=if j=i then .any else .mp j:=by simp [V.kill,V.has]
@[simp] theorem kill_arr {i j o m}:V.kill i (.arr j o m)=if j=i then .any else .arr j o m:=by simp [V.kill,V.has]
@[simp] theorem kill_agg {i cs}:V.kill i (.agg cs)=if V.hasL i cs then .any else .agg cs:=_root_.id (by simp only [V.kill,V.has]; rfl)
@[simp] theorem kill_tup {i cs}:V.kill i (.tup cs)=if V.hasL i cs then .any else .tup cs:=_root_.id (by simp only [V.kill,V.has]; rfl)
@[simp] theorem kill_ifc {i t v}:V.kill i (.ifc t v)=if v.has i then .any else .ifc t v:=_root_.id (by simp only [V.kill,V.has]; rfl)
attribute [simp] V.scalar scalars Value.oneCell' lx0 bF0 hpE setAt
section
variable {K:V->Prop} {Ks:List V->Prop} {nl:Bool} {ks:List Id}
@[simp] theorem view_c {v}:V.view hp (.c v) K=K (.c v):=_root_.id rfl
@[simp] theorem view_lst {xs}:V.view hp (.lst xs) K=K (.lst xs):=_root_.id rfl
@[simp] theorem view_rp {xs}:V.view hp (.rp xs) K=K (.rp xs):=_root_.id rfl
@[simp] theorem view_fn {f cs}:V.view hp (.fn f cs) K=K (.fn f cs):=_root_.id rfl
theorem qh0 {i o m}:V.view hp (.arr i o m) K=objK hp i fun ob=>rowK ob fun _ _ own xs=>own=false/\o + m<=xs.length/\K (.lst ((xs.drop o).take m)):=by
 rw [fg0]; simp only [V.view]; apply propext
 constructor
 ·rintro ⟨ty,sz,xs,h1,h2⟩; exact ⟨ty,sz,false,xs,h1,rfl,h2⟩
 ·rintro ⟨ty,sz,own,xs,h1,rfl,h2⟩; exact ⟨ty,sz,xs,h1,h2⟩
@[simp] theorem view_arr {i o m}:V.view hp (.arr i o m) K=objK hp i (hold fun ob=>rowK ob (hold fun _ _ own xs=>own=false/\o + m<=xs.length/\K (.lst ((xs.drop o).take m)))):=qh0
@[simp] theorem view_agg {cs}:V.view hp (.agg cs) K=V.dB0 hp cs (hold fun us=>K (.agg us)):=by simp only [V.view,hold]
@[simp] theorem view_tup {cs}:V.view hp (.tup cs) K=V.dB0 hp cs (hold fun us=>K (.tup us)):=by simp only [V.view,hold]
@[simp] theorem viewL_nil:V.dB0 hp [] Ks=Ks []:=_root_.id rfl
@[simp] theorem sB0 {v vs}:V.dB0 hp (v :: vs) Ks=V.view hp v (hold fun u=>V.dB0 hp vs (hold fun us=>Ks (u :: us))):=by simp only [V.dB0,hold]
@[simp] theorem see_c {v}:V.see nl ks hp (.c v) K=K (.c v):=_root_.id rfl
@[simp] theorem see_nil:V.see nl ks hp .nil K=if nl then K .nil else K (.lst []):=_root_.id rfl
@[simp] theorem see_lst {xs}:V.see nl ks hp (.lst xs) K=K (.lst xs):=_root_.id rfl
@[simp] theorem see_rp {xs}:V.see nl ks hp (.rp xs) K=K (.rp xs):=_root_.id rfl
@[simp] theorem see_bp {i o}:V.see nl ks hp (.bp i o) K=K (.bp i o):=_root_.id rfl
@[simp] theorem see_self {i o}:V.see nl ks hp (.self i o) K=K (.self i o):=_root_.id rfl
theorem see_arr0 {i o m}:V.see nl ks hp (.arr i o m) K=if ks.contains i then K (.arr i o m) else objK hp i fun ob=>rowK ob fun _ _ own xs=>own=false/\o + m<=xs.length/\K (.lst ((xs.drop o).take m)):=by
 simp only [V.see]
 split
 ·rfl
 ·exact qh0
@[simp] theorem see_arr {i o m}:V.see nl ks hp (.arr i o m) K=if ks.contains i then K (.arr i o m) else objK hp i (hold fun ob=>rowK ob (hold fun _ _ own xs=>own=false/\o + m<=xs.length/\K (.lst ((xs.drop o).take m)))):=see_arr0
@[simp] theorem see_agg {cs}:V.see nl ks hp (.agg cs) K=V.seeL nl ks hp cs (hold fun us=>K (.agg us)):=by simp only [V.see,hold]
@[simp] theorem see_tup {cs}:V.see nl ks hp (.tup cs) K=V.seeL nl ks hp cs (hold fun us=>K (.tup us)):=by simp only [V.see,hold]
@[simp] theorem see_fn {f cs}:V.see nl ks hp (.fn f cs) K=V.seeL nl ks hp cs (hold fun us=>K (.fn f us)):=by simp only [V.see,hold]
@[simp] theorem see_ifc {t v}:V.see nl ks hp (.ifc t v) K=V.see nl ks hp v (hold fun u=>K (.ifc t u)):=by simp only [V.see,hold]
@[simp] theorem seeL_nil:V.seeL nl ks hp [] Ks=Ks []:=_root_.id rfl
@[simp] theorem p80 {v vs}:V.seeL nl ks hp (v :: vs) Ks=V.see nl ks hp v (hold fun u=>V.seeL nl ks hp vs (hold fun us=>Ks (u :: us))):=by simp only [V.seeL,hold]
end
theorem callS_ret {env:Env} {hp:Hp} {d:Option Nat} {f:Operand} {xs:List Operand} {K:Env->Hp->Prop} {Kp:V->Hp->Prop} {g:Nat} {caps vs args:List V} {v:V} (h:Ret P g args v) (hf:Env.ev env f=some (.fn g caps)) (hx:xs.mapM (Env.ev env)=some vs)
  (hv:V.dB0 (Hp.frz (.tup (vs++caps)) hp) (vs++caps) (·=args)) (hp1:V.bt0 args=true) (hp2:v.pure=true) (hK:K (env.put d v) (Hp.frz (.tup (vs++caps)) hp)):bJ0 P env hp d f xs K Kp:=by
 refine .inl ⟨g,caps,vs,hf,hx,?_⟩
 obtain ⟨us,rfl,k⟩:=dR0 hv
 exact k _ ⟨hp1,h.use ⟨hp2,hK⟩⟩
theorem callN_ret {env:Env} {hp:Hp} {d:Option Nat} {f:Operand} {xs:List Operand} {K Kp:V->Option Eff->Prop} {g:Nat} {caps vs args:List V} {v:V} (h:Ret P g args v) (hf:Env.ev env f=some (.fn g caps)) (hx:xs.mapM (Env.ev env)=some vs)
  (hv:V.dB0 [] (vs++caps) (·=args)) (hp1:V.bt0 args=true) (hp2:v.pure=true) (hK:K v none):bP0 P env hp d f xs K Kp:=by
 refine .inl ⟨g,caps,vs,hf,hx,?_⟩
 obtain ⟨us,rfl,k⟩:=dR0 hv
 exact k _ ⟨hp1,.ret v [],h,hp2,hK⟩
end Go.Am
end

section
namespace Go.Am
variable {P:Program} {n:Nat} {env:Env} {hp:Hp}
theorem elemK_map {α:Type} {f:α->List V} {l:List α} {k:Nat} {K:List V->Prop} (h:k < l.length) (hK:K (f (l[k]'h))):fW0 (l.map f) k K:=⟨f l[k],by simp [h],hK⟩
theorem wrap64 {x:Int} (h1:-9223372036854775808<=x) (h2:x < 9223372036854775808):IntKind.i64.wrap x=x:=by
 simp only [IntKind.wrap,IntKind.bits,IntKind.signed]; simp; omega
def ForI (m:Nat) (E:Nat->Env) (H:Nat->Hp):Nat->Env->Hp->Prop:=fun k e h=>∃ i,i<=m/\k=m - i/\e=E i/\h=H i
def ForN (m:Nat) (E:Nat->Env) (H:Nat->Hp) (i:Nat) (e':Env) (h':Hp):Prop:=∃ m' E' h'',m' < m - i/\ForI m E H m' E' h''/\Wk E' h'' e' h'
theorem ForN.of {m i:Nat} {E:Nat->Env} {H:Nat->Hp} {e':Env} {h':Hp} (hi:i < m) (h:Wk (E (i + 1)) (H (i + 1)) e' h'):ForN m E H i e' h':=⟨m - (i + 1),_,_,by omega,⟨i + 1,hi,rfl,rfl,rfl⟩,h⟩
theorem bm0 {b:Cd} {env:Env} {hp:Hp} {Q:Qs} (m:Nat) (E:Nat->Env) (H:Nat->Hp) (h0:Wk (E 0) (H 0) env hp)
  (hs:∀ i,i<=m->vc P b (E i) (H i) (hold (l80 (fun e' h'=>ForN m E H i e' h') Q))):b20 P b env hp Q:=by
 refine ⟨ForI m E H,⟨m,_,_,⟨0,Nat.zero_le _,rfl,rfl,rfl⟩,h0⟩,?_⟩
 rintro k e h ⟨i,hi,rfl,rfl,rfl⟩
 exact hs i hi
def WhI {α:Type} (mu:α->Nat) (E:α->Env) (H:α->Hp) (ok:α->Prop):Nat->Env->Hp->Prop:=fun k e h=>∃ x,ok x/\k=mu x/\e=E x/\h=H x
def WhN {α:Type} (mu:α->Nat) (E:α->Env) (H:α->Hp) (ok:α->Prop) (x:α) (e':Env) (h':Hp):Prop:=∃ m' E' h'',m' < mu x/\WhI mu E H ok m' E' h''/\Wk E' h'' e' h'
theorem WhN.of {α:Type} {mu:α->Nat} {E:α->Env} {H:α->Hp} {ok:α->Prop} {x:α} {e':Env} {h':Hp} (y:α) (hy:ok y) (hlt:mu y < mu x) (h:Wk (E y) (H y) e' h'):WhN mu E H ok x e' h':=⟨mu y,_,_,hlt,⟨y,hy,rfl,rfl,rfl⟩,h⟩
theorem aH0 {α:Type} {b:Cd} {env:Env} {hp:Hp} {Q:Qs} (mu:α->Nat) (E:α->Env) (H:α->Hp) (ok:α->Prop) (x0:α) (hx0:ok x0) (h0:Wk (E x0) (H x0) env hp)
  (hs:∀ x,ok x->vc P b (E x) (H x) (hold (l80 (fun e' h'=>WhN mu E H ok x e' h') Q))):b20 P b env hp Q:=by
 refine ⟨WhI mu E H ok,⟨_,_,_,⟨x0,hx0,rfl,rfl,rfl⟩,h0⟩,?_⟩
 rintro k e h ⟨x,hx,rfl,rfl,rfl⟩
 exact hs x hx
theorem Wk.subs {E:Env} {h:Hp} (hE:∀ p ∈ E,bc0 env p.1 (·=p.2)) (hh:∀ p ∈ h,objK hp p.1 (·=p.2)):Wk E h env hp :=
 .sub (fun p hp=>by have:=hE p hp; rw [eM0] at this; obtain ⟨v,h1,rfl⟩:=this; exact h1) (fun p hp'=>by have:=hh p hp'; rw [h90] at this; obtain ⟨v,h1,rfl⟩:=this; exact h1)
def mapK (f:Id->Option Id) (v:V) (K:V->Prop):Prop:=∃ u,v.aQ0 f=some u/\K u
def c70 (f:Id->Option Id) (v:List V) (K:List V->Prop):Prop:=∃ u,V.fA0 f v=some u/\K u
def getO (hp:Hp) (i:Id):Ob:=(hp.lookup i).getD .gone
def Ob.cellsOf:Ob->List V
 | .box cs=>cs
 | _=>[]
def handO (ids:List Id) (hp:Hp):Ob->(Ob->Prop)->Prop
 | .box cs,K=>V.seeL true ids hp cs fun us=>c70 (toE ids 0) us fun us'=>K (.box us')
 | .row ty sz own xs,K=>K (.row ty sz own xs)
 | .gone,K=>K .gone
 | .mpo kd kvs,K=>K .gone
@[simp] theorem handV_nil {ids} {K:List Ob->Prop}:eZ0 ids hp [] K=K []:=_root_.id rfl
theorem r70 {ids i is} {K:List Ob->Prop}:eZ0 ids hp (i :: is) K=handO ids hp (getO hp i) fun o=>eZ0 ids hp is fun obs=>K (o :: obs):=by
 simp only [eZ0,getO]
 cases hp.lookup i with
 | none=>rfl
 | some o=>cases o <;> rfl
@[simp] theorem handV_cons_h {ids i is} {K:List Ob->Prop}:eZ0 ids hp (i :: is) K=handO ids hp (getO hp i) (hold fun o=>eZ0 ids hp is (hold fun obs=>K (o :: obs))):=r70
@[simp] theorem handO_box {ids cs} {K:Ob->Prop}:handO ids hp (.box cs) K=V.seeL true ids hp cs (hold fun us=>c70 (toE ids 0) us (hold fun us'=>K (.box us'))):=_root_.id rfl
@[simp] theorem handO_row {ids ty sz own xs} {K:Ob->Prop}:handO ids hp (.row ty sz own xs) K=K (.row ty sz own xs):=_root_.id rfl
@[simp] theorem handO_gone {ids} {K:Ob->Prop}:handO ids hp .gone K=K .gone:=_root_.id rfl
@[simp] theorem getO_nil {i}:getO [] i=.gone:=_root_.id rfl
@[simp] theorem getO_cons {i j o} {h:Hp}:getO ((j,o) :: h) i=if i=j then o else getO h i:=by
 simp only [getO,List.lookup_cons]
 by_cases e:i=j
 ·subst e; simp
 ·have:(i == j)=false:=by simpa using e
  rw [this,if_neg e]
@[simp] theorem boxes_nil:boxes hp []=[]:=_root_.id rfl
@[simp] theorem boxes_cons {i is}:boxes hp (i :: is)=(getO hp i).cellsOf++boxes hp is:=by
 simp only [boxes,List.flatMap_cons,getO]
 cases hp.lookup i with
 | none=>rfl
 | some o=>cases o <;> rfl
@[simp] theorem cellsOf_box {cs}:Ob.cellsOf (.box cs)=cs:=_root_.id rfl
@[simp] theorem cellsOf_row {ty sz own xs}:Ob.cellsOf (.row ty sz own xs)=[]:=_root_.id rfl
@[simp] theorem cellsOf_gone:Ob.cellsOf .gone=[]:=_root_.id rfl
theorem outV_eq {ids v} {K:V->List Ob->Prop}:outV hp ids v K=V.see false ids (Hp.frz (.tup (V.bq0 ids (v :: boxes hp ids))) hp) v (hold fun u=>mapK (toE ids 0) u (hold fun u'=>eZ0 ids (Hp.frz (.tup (V.bq0 ids (v :: boxes hp ids))) hp) ids (hold fun obs=>K u' obs))):=_root_.id rfl
attribute [simp] outV_eq
section
variable {f:Id->Option Id} {K:V->Prop} {Ks:List V->Prop}
theorem gp0 {α:Type} {o:Option α} {g:α->V}:(∃ u,o.map g=some u/\K u)=∃ y,o=some y/\K (g y):=by
 cases o <;> simp
def idK (o:Option Id) (K:Id->Prop):Prop:=∃ i,o=some i/\K i
@[simp] theorem idK_some {i} {K:Id->Prop}:idK (some i) K=K i:=by simp [idK]
@[simp] theorem idK_none {K:Id->Prop}:idK none K=False:=by simp [idK]
@[simp] theorem mapK_any:mapK f .any K=K .any:=by simp [mapK,V.aQ0]
@[simp] theorem mapK_c {v}:mapK f (.c v) K=K (.c v):=by simp [mapK,V.aQ0]
@[simp] theorem mapK_nil:mapK f .nil K=K .nil:=by simp [mapK,V.aQ0]
@[simp] theorem mapK_lst {xs}:mapK f (.lst xs) K=K (.lst xs):=by simp [mapK,V.aQ0]
@[simp] theorem mapK_rp {xs}:mapK f (.rp xs) K=K (.rp xs):=by simp [mapK,V.aQ0]
@[simp] theorem mapK_bp {i o}:mapK f (.bp i o) K=idK (f i) (hold fun j=>K (.bp j o)):=by simp only [mapK,V.aQ0,gp0,idK,hold]
@[simp] theorem mapK_self {i o}:mapK f (.self i o) K=idK (f i) (hold fun j=>K (.self j o)):=by simp only [mapK,V.aQ0,gp0,idK,hold]
@[simp] theorem mapK_arr {i o m}:mapK f (.arr i o m) K=idK (f i) (hold fun j=>K (.arr j o m)):=by simp only [mapK,V.aQ0,gp0,idK,hold]
@[simp] theorem mapK_agg {cs}:mapK f (.agg cs) K=c70 f cs (hold fun us=>K (.agg us)):=by simp only [mapK,V.aQ0,gp0,c70,hold]
@[simp] theorem mapK_fn {g cs}:mapK f (.fn g cs) K=c70 f cs (hold fun us=>K (.fn g us)):=by simp only [mapK,V.aQ0,gp0,c70,hold]
@[simp] theorem mapK_tup {cs}:mapK f (.tup cs) K=c70 f cs (hold fun us=>K (.tup us)):=by simp only [mapK,V.aQ0,gp0,c70,hold]
@[simp] theorem mapK_ifc {t v}:mapK f (.ifc t v) K=mapK f v (hold fun u=>K (.ifc t u)):=by simp only [mapK,V.aQ0,gp0,hold]
@[simp] theorem mapLK_nil:c70 f [] Ks=Ks []:=by simp [c70,V.fA0]
@[simp] theorem lo0 {v vs}:c70 f (v :: vs) Ks=mapK f v (hold fun u=>c70 f vs (hold fun us=>Ks (u :: us))):=by
 simp only [c70,mapK,V.fA0,hold]; apply propext
 constructor
 ·rintro ⟨us,h1,h2⟩
  simp only [Option.bind_eq_some_iff,Option.map_eq_some_iff] at h1
  obtain ⟨u,h1,us',h3,rfl⟩:=h1
  exact ⟨u,h1,us',h3,h2⟩
 ·rintro ⟨u,h1,us,h2,h3⟩; exact ⟨u :: us,by simp [h1,h2],h3⟩
end
attribute [simp] toE esL V.hide V.bq0
theorem endR {k:Nat} {rs:List IOp} {Q:Res->Prop} (E:Env) (h:Hp) (hw:Wk E h env hp) (outs:List Id) (hnd:(esL 0 k++outs).Nodup)
  (hr:resV h (Env.ev E) rs fun vs=>outV h (esL 0 k++outs) (lx0 vs) fun u obs=>Q (.ret u obs)):wkQ (retX k rs Q) .ret env hp:=⟨E,h,hw,outs,hnd,hr⟩
theorem endN {k:Nat} {rs:List IOp} {Q:Res->Prop} (E:Env) (h:Hp) (hw:Wk E h env hp) (outs:List Id) (hnd:(esL 0 k++outs).Nodup)
  (hr:resV h (Env.ev E) rs fun vs=>outV h (esL 0 k++outs) (lx0 vs) fun u obs=>Q (.ret u obs)):wkQ (retX k rs Q) .normal env hp:=⟨E,h,hw,outs,hnd,hr⟩
theorem ax0 {k:Nat} {rs:List IOp} {Q:Res->Prop} (outs:List Id) (hr:resV hp (Env.ev env) rs fun vs=>outV hp (esL 0 k++outs) (lx0 vs) fun u obs=>Q (.ret u obs))
  (hnd:(esL 0 k++outs).Nodup:=by simp):wkQ (retX k rs Q) .ret env hp:=endR _ _ (Wk.refl _ _) outs hnd hr
theorem b10 {k:Nat} {rs:List IOp} {Q:Res->Prop} (outs:List Id) (hr:resV hp (Env.ev env) rs fun vs=>outV hp (esL 0 k++outs) (lx0 vs) fun u obs=>Q (.ret u obs))
  (hnd:(esL 0 k++outs).Nodup:=by simp):wkQ (retX k rs Q) .normal env hp:=endN _ _ (Wk.refl _ _) outs hnd hr
end Go.Am
end

section
namespace Go.Am
variable {P:Program} {n:Nat} {env:Env} {hp:Hp}
def bD0 (P:Program) (g:Nat) (args:List V) (obs:List Ob) (env:Env) (hp:Hp) (ids:List Id) (d:Option Nat) (K:Env->Hp->Prop) (Kp:V->Hp->Prop):Prop :=
 J P g args obs fun r=>match r with
  | .ret v obs'=>∃ base,(d=some base\/obs'.length<=ids.length)/\fB0 env hp ids base v obs' fun v' env' hp'=>K (env'.put d v') hp'
  | .pan v obs'=>fB0 env hp ids 0 v obs' fun v' _ hp'=>Kp v' hp'
theorem c00 {d:Option Nat} {f:Operand} {xs:List Operand} {K:Env->Hp->Prop} {Kp:V->Hp->Prop} {g:Nat} {caps vs:List V} (ids:List Id) (hf:Env.ev env f=some (.fn g caps)) (hx:xs.mapM (Env.ev env)=some vs) (hnd:ids.Nodup)
  (h:V.seeL false ids (Hp.frz (.tup (V.bq0 ids (vs++caps++boxes hp ids))) hp) (vs++caps) (hold fun us=>c70 (toE ids 0) us (hold fun args =>
   eZ0 ids (Hp.frz (.tup (V.bq0 ids (vs++caps++boxes hp ids))) hp) ids (hold fun obs=>bD0 P g args obs env (Hp.frz (.tup (V.bq0 ids (vs++caps++boxes hp ids))) hp) ids d K Kp)))):bJ0 P env hp d f xs K Kp :=
 .inr ⟨g,caps,vs,ids,false,hf,hx,hnd,h⟩
theorem aa0 {d:Option Nat} {f:Operand} {xs:List Operand} {K:Env->Hp->Prop} {Kp:V->Hp->Prop} {g:Nat} {caps vs:List V} (ids:List Id)
  (h:V.seeL false ids (Hp.frz (.tup (V.bq0 ids (vs++caps++boxes hp ids))) hp) (vs++caps) (hold fun us=>c70 (toE ids 0) us (hold fun args =>
   eZ0 ids (Hp.frz (.tup (V.bq0 ids (vs++caps++boxes hp ids))) hp) ids (hold fun obs=>bD0 P g args obs env (Hp.frz (.tup (V.bq0 ids (vs++caps++boxes hp ids))) hp) ids d K Kp))))
  (hf:Env.ev env f=some (.fn g caps):=by rfl) (hx:xs.mapM (Env.ev env)=some vs:=by rfl) (hnd:ids.Nodup:=by simp):bJ0 P env hp d f xs K Kp:=c00 ids hf hx hnd h
theorem rU0 {d:Option Nat} {f:Operand} {xs:List Operand} {K:Env->Hp->Prop} {Kp:V->Hp->Prop} {g:Nat} {caps vs:List V} (ids:List Id) (hf:Env.ev env f=some (.fn g caps)) (hx:xs.mapM (Env.ev env)=some vs) (hnd:ids.Nodup)
  (h:V.seeL true ids (Hp.frz (.tup (V.bq0 ids (vs++caps++boxes hp ids))) hp) (vs++caps) (hold fun us=>c70 (toE ids 0) us (hold fun args =>
   eZ0 ids (Hp.frz (.tup (V.bq0 ids (vs++caps++boxes hp ids))) hp) ids (hold fun obs=>bD0 P g args obs env (Hp.frz (.tup (V.bq0 ids (vs++caps++boxes hp ids))) hp) ids d K Kp)))):bJ0 P env hp d f xs K Kp :=
 .inr ⟨g,caps,vs,ids,true,hf,hx,hnd,h⟩
theorem callJ_ret {g:Nat} {args:List V} {obs obs':List Ob} {ids:List Id} {d:Option Nat} {K:Env->Hp->Prop} {Kp:V->Hp->Prop} {v:V} (base:Nat) (h:J P g args obs (·=.ret v obs')) (hb:d=some base\/obs'.length<=ids.length)
  (hK:fB0 env hp ids base v obs' (hold fun v' env' hp'=>K (env'.put d v') hp')):bD0 P g args obs env hp ids d K Kp:=J.mono h fun r e=>by subst e; exact ⟨base,hb,hK⟩
theorem ab0 {g:Nat} {args:List V} {obs obs':List Ob} {ids:List Id} {d:Option Nat} {K:Env->Hp->Prop} {Kp:V->Hp->Prop} {v:V} (base:Nat) (h:J P g args obs (·=.ret v obs'))
  (hK:fB0 env hp ids base v obs' (hold fun v' env' hp'=>K (env'.put d v') hp')) (hb:d=some base\/obs'.length<=ids.length:=by simp):bD0 P g args obs env hp ids d K Kp:=callJ_ret base h hb hK
theorem af0 {g:Nat} {args:List V} {obs obs':List Ob} {ids:List Id} {d:Option Nat} {K:Env->Hp->Prop} {Kp:V->Hp->Prop} {v:V} (h:J P g args obs (·=.pan v obs'))
  (hK:fB0 env hp ids 0 v obs' fun v' _ hp'=>Kp v' hp'):bD0 P g args obs env hp ids d K Kp:=J.mono h fun r e=>by subst e; exact hK
def nB0 (f:Id->Option Id) (o:Ob) (K:Ob->Prop):Prop:=∃ q,o.aQ0 f=some q/\K q
def mU0 (f:Id->Option Id) (os:List Ob) (K:List Ob->Prop):Prop:=∃ q,os.mapM (Ob.aQ0 f)=some q/\K q
section
variable {f:Id->Option Id} {K:Ob->Prop} {Ks:List Ob->Prop}
@[simp] theorem mapOK_gone:nB0 f .gone K=K .gone:=by simp [nB0,Ob.aQ0]
@[simp] theorem mapOK_row {ty sz own xs}:nB0 f (.row ty sz own xs) K=K (.row ty sz own xs):=by simp [nB0,Ob.aQ0]
@[simp] theorem mapOK_box {cs}:nB0 f (.box cs) K=c70 f cs (hold fun us=>K (.box us)):=by
 simp only [nB0,Ob.aQ0,c70,hold]
 cases V.fA0 f cs <;> simp
@[simp] theorem mapOsK_nil:mU0 f [] Ks=Ks []:=by simp [mU0]
@[simp] theorem mapOsK_cons {o os}:mU0 f (o :: os) Ks=nB0 f o (hold fun q=>mU0 f os (hold fun qs=>Ks (q :: qs))):=by
 simp only [mU0,nB0,List.mapM_cons,hold]; apply propext
 constructor
 ·rintro ⟨us,h1,h2⟩
  simp only [Option.bind_eq_bind,Option.bind_eq_some_iff,Option.pure_def,Option.some.injEq] at h1
  obtain ⟨u,h1,us',h3,rfl⟩:=h1
  exact ⟨u,h1,us',h3,h2⟩
 ·rintro ⟨u,h1,us,h2,h3⟩; exact ⟨u :: us,by simp [h1,h2],h3⟩
end
theorem backV_eq {ids base v obs} {K:V->Env->Hp->Prop}:fB0 env hp ids base v obs K=((newL base 0 (obs.length - ids.length)).all (fun i=>!ids.contains i)=true/\mapK (back ids base obs) v (hold fun v'=>mU0 (back ids base obs) obs (hold fun os' =>
  K v' (Env.dg0 (newL base 0 (obs.length - ids.length)) env) (hpN (ids++newL base 0 (obs.length - ids.length)) os'++fJ0 ids (Hp.dg0 (newL base 0 (obs.length - ids.length)) hp))))):=by
 simp only [fB0,mapK,mU0,hold]; apply propext
 constructor
 ·rintro ⟨h1,v',os',h2,h3,h4⟩; exact ⟨h1,v',h2,os',h3,h4⟩
 ·rintro ⟨h1,v',h2,os',h3,h4⟩; exact ⟨h1,v',os',h2,h3,h4⟩
attribute [simp] backV_eq newL hpN
@[simp] theorem restH_nil {ids}:fJ0 ids []=[]:=_root_.id rfl
@[simp] theorem restH_cons {ids i o} {h:Hp}:fJ0 ids ((i,o) :: h)=if ids.contains i then fJ0 ids h else (i,o) :: fJ0 ids h:=by
 simp only [fJ0,List.filter_cons]
 cases ids.contains i <;> simp
@[simp] theorem back_e {ids base obs j}:back ids base obs (.e j)=match ids[j]? with
  | some i=>match obs[j]? with
   | some .gone=>none
   | some _=>some i
   | none=>none
  | none=>if j < obs.length then some (.l base (j - ids.length)) else none:=_root_.id rfl
@[simp] theorem killsE_none (e:Env):Env.dg0 [] e=e:=by
 induction e with
 | nil=>rfl
 | cons p e ih=>obtain ⟨s,v⟩:=p; simp [ih]
def aV0 (P:Program) (g:Nat) (args:List V) (obs:List Ob) (env:Env) (hp:Hp) (ids:List Id) (d:Option Nat) (T:List Id) (hp0:Hp) (K Kp:V->Option Eff->Prop):Prop :=
 ∃ r,J P g args obs (·=r)/\match r with
  | .ret v obs'=>∃ base,(d=some base\/obs'.length<=ids.length)/\fB0 env hp ids base v obs' fun v' _ h=>offB T d h=true/\K v' (some ⟨[],T,true,h++fJ0 T hp0⟩)
  | .pan v obs'=>fB0 env hp ids 0 v obs' fun v' _ h=>offB T none h=true/\Kp v' (some ⟨[],T,false,h++fJ0 T hp0⟩)
theorem callN_obj {d:Option Nat} {f:Operand} {xs:List Operand} {K Kp:V->Option Eff->Prop} {g:Nat} {caps vs:List V} (T ids:List Id) (hf:Env.ev env f=some (.fn g caps)) (hx:xs.mapM (Env.ev env)=some vs) (hnd:ids.Nodup)
  (h:V.seeL false ids (Hp.frz (.tup (V.bq0 ids (vs++caps++boxes (Hp.onl T hp) ids))) (Hp.onl T hp)) (vs++caps) (hold fun us=>c70 (toE ids 0) us (hold fun args =>
   eZ0 ids (Hp.frz (.tup (V.bq0 ids (vs++caps++boxes (Hp.onl T hp) ids))) (Hp.onl T hp)) ids (hold fun obs =>
    aV0 P g args obs env (Hp.frz (.tup (V.bq0 ids (vs++caps++boxes (Hp.onl T hp) ids))) (Hp.onl T hp)) ids d T hp K Kp)))):bP0 P env hp d f xs K Kp :=
 .inr ⟨T,g,caps,vs,ids,hf,hx,hnd,h⟩
theorem bk0 {d:Option Nat} {f:Operand} {xs:List Operand} {K Kp:V->Option Eff->Prop} {g:Nat} {caps vs:List V} (ids:List Id)
  (h:V.seeL false ids (Hp.frz (.tup (V.bq0 ids (vs++caps++boxes (Hp.onl ids hp) ids))) (Hp.onl ids hp)) (vs++caps) (hold fun us=>c70 (toE ids 0) us (hold fun args =>
   eZ0 ids (Hp.frz (.tup (V.bq0 ids (vs++caps++boxes (Hp.onl ids hp) ids))) (Hp.onl ids hp)) ids (hold fun obs =>
    aV0 P g args obs env (Hp.frz (.tup (V.bq0 ids (vs++caps++boxes (Hp.onl ids hp) ids))) (Hp.onl ids hp)) ids d ids hp K Kp))))
  (hf:Env.ev env f=some (.fn g caps):=by rfl) (hx:xs.mapM (Env.ev env)=some vs:=by rfl) (hnd:ids.Nodup:=by simp):bP0 P env hp d f xs K Kp:=callN_obj ids ids hf hx hnd h
theorem rR0 {g:Nat} {args:List V} {obs obs':List Ob} {ids T:List Id} {hp0:Hp} {d:Option Nat} {K Kp:V->Option Eff->Prop} {v:V} (base:Nat) (h:J P g args obs (·=.ret v obs')) (hb:d=some base\/obs'.length<=ids.length)
  (hK:fB0 env hp ids base v obs' (hold fun v' _ h=>offB T d h=true/\K v' (some ⟨[],T,true,h++fJ0 T hp0⟩))):aV0 P g args obs env hp ids d T hp0 K Kp:=⟨_,h,base,hb,hK⟩
theorem cH0 {g:Nat} {args:List V} {obs obs':List Ob} {ids T:List Id} {hp0:Hp} {d:Option Nat} {K Kp:V->Option Eff->Prop} {v:V} (base:Nat) (h:J P g args obs (·=.ret v obs'))
  (hK:fB0 env hp ids base v obs' (hold fun v' _ h=>offB T d h=true/\K v' (some ⟨[],T,true,h++fJ0 T hp0⟩))) (hb:d=some base\/obs'.length<=ids.length:=by simp):aV0 P g args obs env hp ids d T hp0 K Kp:=rR0 base h hb hK
theorem cN0 {g:Nat} {args:List V} {obs obs':List Ob} {ids T:List Id} {hp0:Hp} {d:Option Nat} {K Kp:V->Option Eff->Prop} {v:V} (h:J P g args obs (·=.pan v obs'))
  (hK:fB0 env hp ids 0 v obs' (hold fun v' _ h=>offB T none h=true/\Kp v' (some ⟨[],T,false,h++fJ0 T hp0⟩))):aV0 P g args obs env hp ids d T hp0 K Kp:=⟨_,h,hK⟩
end Go.Am
end

section
namespace Go.Am
variable {P:Program} {n:Nat} {env:Env} {hp:Hp}
def V.flat:V->Bool
 | .c v=>v.oneCell'
 | .lst _=>true
 | .rp _=>true
 | _=>false
def kG0 (cs:List V):Bool:=cs.all V.flat
theorem df0 {v:V} {cs:List V}:kG0 (v :: cs)=(v.flat && kG0 cs):=_root_.id rfl
section
variable {cs:List V} (h:kG0 cs=true)
include h
theorem fE0 (i:Id):V.hasL i cs=false:=by
 induction cs with
 | nil=>simp
 | cons v cs ih =>
  rw [df0,Bool.and_eq_true] at h
  simp [ih h.2]
  have hv:=h.1
  cases v <;> first | (simp [V.flat] at hv; done) | simp
theorem eT0 (ss:List Nat):V.fG0 ss cs=false:=by
 induction cs with
 | nil=>simp
 | cons v cs ih =>
  rw [df0,Bool.and_eq_true] at h
  simp [ih h.2]
  have hv:=h.1
  cases v <;> first | (simp [V.flat] at hv; done) | simp
theorem gm0 (i:Id):cs.map (V.kill i)=cs:=by
 induction cs with
 | nil=>simp
 | cons v cs ih =>
  rw [df0,Bool.and_eq_true] at h
  simp [ih h.2]
  have hv:=h.1
  cases v <;> first | (simp [V.flat] at hv; done) | simp
theorem ca0:scalars cs=true:=by
 induction cs with
 | nil=>simp
 | cons v cs ih =>
  rw [df0,Bool.and_eq_true] at h
  simp only [scalars,Bool.and_eq_true]
  refine ⟨?_,ih h.2⟩
  have hv:=h.1
  cases v <;> first | exact hv | (simp [V.flat] at hv; done)
theorem ec0:V.bt0 cs=true:=by
 induction cs with
 | nil=>simp
 | cons v cs ih =>
  rw [df0,Bool.and_eq_true] at h
  simp [ih h.2]
  have hv:=h.1
  cases v <;> first | (simp [V.flat] at hv; done) | simp
theorem gn0 (K:List V->Prop):V.dB0 hp cs K=K cs:=by
 induction cs generalizing K with
 | nil=>simp
 | cons v cs ih =>
  rw [df0,Bool.and_eq_true] at h
  rw [sB0]
  simp only [hold,ih h.2]
  have hv:=h.1
  cases v <;> first | (simp [V.flat] at hv; done) | simp
theorem gM0 (nl:Bool) (ks:List Id) (K:List V->Prop):V.seeL nl ks hp cs K=K cs:=by
 induction cs generalizing K with
 | nil=>simp
 | cons v cs ih =>
  rw [df0,Bool.and_eq_true] at h
  rw [p80]
  simp only [hold,ih h.2]
  have hv:=h.1
  cases v <;> first | (simp [V.flat] at hv; done) | simp
theorem gL0 (f:Id->Option Id) (K:List V->Prop):c70 f cs K=K cs:=by
 induction cs generalizing K with
 | nil=>simp
 | cons v cs ih =>
  rw [df0,Bool.and_eq_true] at h
  rw [lo0]
  simp only [hold,ih h.2]
  have hv:=h.1
  cases v <;> first | (simp [V.flat] at hv; done) | simp
theorem eU0 (ks:List Id):V.bq0 ks cs=cs:=by
 induction cs with
 | nil=>simp
 | cons v cs ih =>
  rw [df0,Bool.and_eq_true] at h
  simp [ih h.2]
  have hv:=h.1
  cases v <;> first | (simp [V.flat] at hv; done) | simp
end
def bO0 (P:Program) (g:Nat) (args:List V) (K:V->Prop):Prop:=∃ v,Ret P g args v/\v.pure=true/\K v
theorem aj0 {g:Nat} {args:List V} {K:V->Prop} {v:V} (h:Ret P g args v) (hp:v.pure=true) (hK:K v):bO0 P g args K:=⟨v,h,hp,hK⟩
theorem ao0 {env:Env} {hp:Hp} {d:Option Nat} {f:Operand} {xs:List Operand} {K:Env->Hp->Prop} {Kp:V->Hp->Prop}
  (h:evK env f (hold fun fv=>fnK fv (hold fun g caps=>evsK env xs (hold fun vs=>V.dB0 (Hp.frz (.tup (vs++caps)) hp) (vs++caps) (hold fun args=>V.bt0 args=true/\bO0 P g args (hold fun v=>K (env.put d v) (Hp.frz (.tup (vs++caps)) hp))))))):bJ0 P env hp d f xs K Kp:=by
 rw [bU0] at h
 obtain ⟨fv,h1,h⟩:=h
 simp only [hold] at h
 replace h:∃ g caps,fv=.fn g caps/\evsK env xs fun vs=>V.dB0 (Hp.frz (.tup (vs++caps)) hp) (vs++caps) fun args=>V.bt0 args=true/\bO0 P g args fun v=>K (env.put d v) (Hp.frz (.tup (vs++caps)) hp):=by
  cases fv <;> first | exact h.elim | exact ⟨_,_,rfl,h⟩
 obtain ⟨g,caps,rfl,h⟩:=h
 rw [ld0] at h
 obtain ⟨vs,h2,h⟩:=h
 obtain ⟨us,⟨h3,v,h4,h5,h6⟩,h7⟩:=dR0 h
 exact callS_ret h4 h1 h2 (h7 _ rfl) h3 h5 h6
theorem dd0 {env:Env} {hp:Hp} {d:Option Nat} {f:Operand} {xs:List Operand} {K Kp:V->Option Eff->Prop}
  (h:evK env f (hold fun fv=>fnK fv (hold fun g caps=>evsK env xs (hold fun vs=>V.dB0 [] (vs++caps) (hold fun args=>V.bt0 args=true/\bO0 P g args (hold fun v=>K v none)))))):bP0 P env hp d f xs K Kp:=by
 rw [bU0] at h
 obtain ⟨fv,h1,h⟩:=h
 simp only [hold] at h
 replace h:∃ g caps,fv=.fn g caps/\evsK env xs fun vs=>V.dB0 [] (vs++caps) fun args=>V.bt0 args=true/\bO0 P g args fun v=>K v none:=by
  cases fv <;> first | exact h.elim | exact ⟨_,_,rfl,h⟩
 obtain ⟨g,caps,rfl,h⟩:=h
 rw [ld0] at h
 obtain ⟨vs,h2,h⟩:=h
 obtain ⟨us,⟨h3,v,h4,h5,h6⟩,h7⟩:=dR0 h
 exact callN_ret h4 h1 h2 (h7 _ rfl) h3 h5 h6
theorem elemK_get {α:Type} {f:α->List V} {l:List α} {k:Nat} {K:List V->Prop} (h:k < l.length):fW0 (l.map f) k K=K (f (l[k]'h)):=by
 apply propext
 constructor
 ·rintro ⟨e,h1,h2⟩
  rw [List.getElem?_map,List.getElem?_eq_getElem h] at h1
  simp only [Option.map_some,Option.some.injEq] at h1
  subst h1; exact h2
 ·intro h2; exact elemK_map h h2
@[simp] theorem take_map_len {α β:Type} {f:α->β} {l:List α}:(l.map f).take l.length=l.map f:=List.take_of_length_le (by simp)
@[simp] theorem take_map_app {α β:Type} {f:α->β} {l:List α} {y:β}:(l.map f++[y]).take (l.length + 1)=l.map f++[y]:=List.take_of_length_le (by simp)
@[simp] theorem take_self2 {α:Type} {l:List α} {i:Nat}:(l.take i).take i=l.take i:=by simp [List.take_take]
@[simp] theorem take_snoc {α β:Type} {f:α->β} {l:List α} {i:Nat} {h:i < l.length}:(l.map f).take i++[f (l[i]'h)]=(l.map f).take (i + 1):=by
 have h':i < (l.map f).length:=by simpa using h
 rw [List.take_succ_eq_append_getElem h']; simp
@[simp] theorem tmod_two {n:Nat}:(n:Int).tmod 2=((n % 2:Nat):Int):=rfl
@[simp] theorem eqS_dec {a b:ByteArray}:eqS a b=decide (a=b):=_root_.id rfl
theorem leT {a b:Int} (h:a<=b):(a<=b)=True:=eq_true h
theorem leF {a b:Int} (h:b < a):(a<=b)=False:=eq_false (by omega)
theorem ltT {a b:Int} (h:a < b):(a < b)=True:=eq_true h
theorem ltF {a b:Int} (h:b<=a):(a < b)=False:=eq_false (by omega)
theorem leTn {a b:Nat} (h:a<=b):(a<=b)=True:=eq_true h
theorem leFn {a b:Nat} (h:b < a):(a<=b)=False:=eq_false (by omega)
theorem ltTn {a b:Nat} (h:a < b):(a < b)=True:=eq_true h
theorem ltFn {a b:Nat} (h:b<=a):(a < b)=False:=eq_false (by omega)
theorem wrapI {x:Int} (h1:-9223372036854775808<=x) (h2:x < 9223372036854775808):IntKind.i64.wrap x=x:=wrap64 h1 h2
theorem sx:(∀ {α:Type} {f:α->List V} {l:List α} {k:Nat} {K:List V->Prop} (h:k < l.length),fW0 (l.map f) k K=K (f (l[k]'h)))/\(∀ {x:Int},-9223372036854775808<=x->x < 9223372036854775808->IntKind.i64.wrap x=x) /\
  (∀ {a b:Int},a<=b->(a<=b)=True)/\(∀ {a b:Int},b < a->(a<=b)=False)/\(∀ {a b:Int},a < b->(a < b)=True)/\(∀ {a b:Int},b<=a->(a < b)=False) /\
  (∀ {a b:Nat},a<=b->(a<=b)=True)/\(∀ {a b:Nat},b < a->(a<=b)=False)/\(∀ {a b:Nat},a < b->(a < b)=True)/\(∀ {a b:Nat},b<=a->(a < b)=False) :=
 ⟨elemK_get,wrapI,leT,leF,ltT,ltF,leTn,leFn,ltTn,ltFn⟩
theorem rS0 {p q:Prop} (hq:q) (h:q->p:=by intro hq; simp +contextual (maxSteps:=2000000) (disch:=omega) [-Int.not_lt,-Int.not_le,-Nat.not_lt,-Nat.not_le,sx]; exact hq):p:=h hq
theorem rT0 {p:Prop} (h:p:=by simp +contextual (maxSteps:=2000000) (disch:=omega) [-Int.not_lt,-Int.not_le,-Nat.not_lt,-Nat.not_le,sx]):p:=h
theorem rS1 {p q A0:Prop} (a0:A0) (hq:q) (h:A0->q->p:=by intro a0 hq; simp +contextual (maxSteps:=2000000) (disch:=omega) [-Int.not_lt,-Int.not_le,-Nat.not_lt,-Nat.not_le,sx,a0]; exact hq):p:=h a0 hq
theorem rT1 {p A0:Prop} (a0:A0) (h:A0->p:=by intro a0; simp +contextual (maxSteps:=2000000) (disch:=omega) [-Int.not_lt,-Int.not_le,-Nat.not_lt,-Nat.not_le,sx,a0]):p:=h a0
theorem rS2 {p q A0 A1:Prop} (a0:A0) (a1:A1) (hq:q) (h:A0->A1->q->p:=by intro a0 a1 hq; simp +contextual (maxSteps:=2000000) (disch:=omega) [-Int.not_lt,-Int.not_le,-Nat.not_lt,-Nat.not_le,sx,a0,a1]; exact hq):p:=h a0 a1 hq
theorem rT2 {p A0 A1:Prop} (a0:A0) (a1:A1) (h:A0->A1->p:=by intro a0 a1; simp +contextual (maxSteps:=2000000) (disch:=omega) [-Int.not_lt,-Int.not_le,-Nat.not_lt,-Nat.not_le,sx,a0,a1]):p:=h a0 a1
theorem rS3 {p q A0 A1 A2:Prop} (a0:A0) (a1:A1) (a2:A2) (hq:q) (h:A0->A1->A2->q->p:=by intro a0 a1 a2 hq; simp +contextual (maxSteps:=2000000) (disch:=omega) [-Int.not_lt,-Int.not_le,-Nat.not_lt,-Nat.not_le,sx,a0,a1,a2]; exact hq):p:=h a0 a1 a2 hq
theorem rT3 {p A0 A1 A2:Prop} (a0:A0) (a1:A1) (a2:A2) (h:A0->A1->A2->p:=by intro a0 a1 a2; simp +contextual (maxSteps:=2000000) (disch:=omega) [-Int.not_lt,-Int.not_le,-Nat.not_lt,-Nat.not_le,sx,a0,a1,a2]):p:=h a0 a1 a2
theorem rS4 {p q A0 A1 A2 A3:Prop} (a0:A0) (a1:A1) (a2:A2) (a3:A3) (hq:q) (h:A0->A1->A2->A3->q->p:=by intro a0 a1 a2 a3 hq; simp +contextual (maxSteps:=2000000) (disch:=omega) [-Int.not_lt,-Int.not_le,-Nat.not_lt,-Nat.not_le,sx,a0,a1,a2,a3]; exact hq):p:=h a0 a1 a2 a3 hq
theorem rT4 {p A0 A1 A2 A3:Prop} (a0:A0) (a1:A1) (a2:A2) (a3:A3) (h:A0->A1->A2->A3->p:=by intro a0 a1 a2 a3; simp +contextual (maxSteps:=2000000) (disch:=omega) [-Int.not_lt,-Int.not_le,-Nat.not_lt,-Nat.not_le,sx,a0,a1,a2,a3]):p:=h a0 a1 a2 a3
theorem rS5 {p q A0 A1 A2 A3 A4:Prop} (a0:A0) (a1:A1) (a2:A2) (a3:A3) (a4:A4) (hq:q) (h:A0->A1->A2->A3->A4->q->p:=by intro a0 a1 a2 a3 a4 hq; simp +contextual (maxSteps:=2000000) (disch:=omega) [-Int.not_lt,-Int.not_le,-Nat.not_lt,-Nat.not_le,sx,a0,a1,a2,a3,a4]; exact hq):p:=h a0 a1 a2 a3 a4 hq
theorem rT5 {p A0 A1 A2 A3 A4:Prop} (a0:A0) (a1:A1) (a2:A2) (a3:A3) (a4:A4) (h:A0->A1->A2->A3->A4->p:=by intro a0 a1 a2 a3 a4; simp +contextual (maxSteps:=2000000) (disch:=omega) [-Int.not_lt,-Int.not_le,-Nat.not_lt,-Nat.not_le,sx,a0,a1,a2,a3,a4]):p:=h a0 a1 a2 a3 a4
theorem rS6 {p q A0 A1 A2 A3 A4 A5:Prop} (a0:A0) (a1:A1) (a2:A2) (a3:A3) (a4:A4) (a5:A5) (hq:q) (h:A0->A1->A2->A3->A4->A5->q->p:=by intro a0 a1 a2 a3 a4 a5 hq; simp +contextual (maxSteps:=2000000) (disch:=omega) [-Int.not_lt,-Int.not_le,-Nat.not_lt,-Nat.not_le,sx,a0,a1,a2,a3,a4,a5]; exact hq):p:=h a0 a1 a2 a3 a4 a5 hq
theorem rT6 {p A0 A1 A2 A3 A4 A5:Prop} (a0:A0) (a1:A1) (a2:A2) (a3:A3) (a4:A4) (a5:A5) (h:A0->A1->A2->A3->A4->A5->p:=by intro a0 a1 a2 a3 a4 a5; simp +contextual (maxSteps:=2000000) (disch:=omega) [-Int.not_lt,-Int.not_le,-Nat.not_lt,-Nat.not_le,sx,a0,a1,a2,a3,a4,a5]):p:=h a0 a1 a2 a3 a4 a5
theorem rS7 {p q A0 A1 A2 A3 A4 A5 A6:Prop} (a0:A0) (a1:A1) (a2:A2) (a3:A3) (a4:A4) (a5:A5) (a6:A6) (hq:q) (h:A0->A1->A2->A3->A4->A5->A6->q->p:=by intro a0 a1 a2 a3 a4 a5 a6 hq; simp +contextual (maxSteps:=2000000) (disch:=omega) [-Int.not_lt,-Int.not_le,-Nat.not_lt,-Nat.not_le,sx,a0,a1,a2,a3,a4,a5,a6]; exact hq):p:=h a0 a1 a2 a3 a4 a5 a6 hq
theorem rT7 {p A0 A1 A2 A3 A4 A5 A6:Prop} (a0:A0) (a1:A1) (a2:A2) (a3:A3) (a4:A4) (a5:A5) (a6:A6) (h:A0->A1->A2->A3->A4->A5->A6->p:=by intro a0 a1 a2 a3 a4 a5 a6; simp +contextual (maxSteps:=2000000) (disch:=omega) [-Int.not_lt,-Int.not_le,-Nat.not_lt,-Nat.not_le,sx,a0,a1,a2,a3,a4,a5,a6]):p:=h a0 a1 a2 a3 a4 a5 a6
theorem rS8 {p q A0 A1 A2 A3 A4 A5 A6 A7:Prop} (a0:A0) (a1:A1) (a2:A2) (a3:A3) (a4:A4) (a5:A5) (a6:A6) (a7:A7) (hq:q) (h:A0->A1->A2->A3->A4->A5->A6->A7->q->p:=by intro a0 a1 a2 a3 a4 a5 a6 a7 hq; simp +contextual (maxSteps:=2000000) (disch:=omega) [-Int.not_lt,-Int.not_le,-Nat.not_lt,-Nat.not_le,sx,a0,a1,a2,a3,a4,a5,a6,a7]; exact hq):p:=h a0 a1 a2 a3 a4 a5 a6 a7 hq
theorem rT9 {p A0 A1 A2 A3 A4 A5 A6 A7 A8:Prop} (a0:A0) (a1:A1) (a2:A2) (a3:A3) (a4:A4) (a5:A5) (a6:A6) (a7:A7) (a8:A8) (h:A0->A1->A2->A3->A4->A5->A6->A7->A8->p:=by intro a0 a1 a2 a3 a4 a5 a6 a7 a8; simp +contextual (maxSteps:=2000000) (disch:=omega) [-Int.not_lt,-Int.not_le,-Nat.not_lt,-Nat.not_le,sx,a0,a1,a2,a3,a4,a5,a6,a7,a8]):p:=h a0 a1 a2 a3 a4 a5 a6 a7 a8
theorem rS10 {p q A0 A1 A2 A3 A4 A5 A6 A7 A8 A9:Prop} (a0:A0) (a1:A1) (a2:A2) (a3:A3) (a4:A4) (a5:A5) (a6:A6) (a7:A7) (a8:A8) (a9:A9) (hq:q) (h:A0->A1->A2->A3->A4->A5->A6->A7->A8->A9->q->p:=by intro a0 a1 a2 a3 a4 a5 a6 a7 a8 a9 hq; simp +contextual (maxSteps:=2000000) (disch:=omega) [-Int.not_lt,-Int.not_le,-Nat.not_lt,-Nat.not_le,sx,a0,a1,a2,a3,a4,a5,a6,a7,a8,a9]; exact hq):p:=h a0 a1 a2 a3 a4 a5 a6 a7 a8 a9 hq
theorem head_map {α:Type} {f:α->List V} {l:List α} {sz:Nat} (h:∀ x,(f x).length=sz):(l.map f=[]\/∃ e,(l.map f)[0]?=some e/\e.length=sz)=True:=by
 apply eq_true
 cases l with
 | nil=>exact .inl rfl
 | cons x l=>exact .inr ⟨f x,rfl,h x⟩
end Go.Am
end

section
namespace Go.Am
variable {P:Program} {n:Sz} {H:Imm} {μ:Mu} {env:Env} {hp:Hp} {a:Act} {w:World}
def renF (i j:Id):Id->Option Id:=fun x=>if x=i then some j else if x=j then none else some x
def bR0 (i j:Id):Id->Id:=fun x=>if x=j then i else x
theorem Wk.rens {E:Env} {h:Hp} (i j:Id) (hj:j.isL=true) (hij:i ≠ j) (hE:∀ p ∈ E,bc0 env p.1 fun v=>mapK (renF i j) v (·=p.2))
  (hh:∀ p ∈ h,p.1 ≠ i/\objK hp (bR0 i j p.1) fun o=>nB0 (renF i j) o (·=p.2)):Wk E h env hp:=fun n H μ a w hS=>by
 let μ':Mu:=fun x=>if x=j then μ i else μ x
 have hμ:∀ x x',renF i j x=some x'->μ' x'=μ x:=by
  intro x x' hx
  unfold renF at hx
  by_cases h1:x=i
  ·subst h1; rw [if_pos rfl] at hx; injection hx with hx; subst hx; simp [μ']
  ·rw [if_neg h1] at hx
   by_cases h2:x=j
   ·rw [if_pos h2] at hx; cases hx
   ·rw [if_neg h2] at hx; injection hx with hx; subst hx; simp [μ',h2]
 have hun:∀ x,x ≠ i->renF i j (bR0 i j x)=some x:=by
  intro x hx
  unfold renF bR0
  by_cases h1:x=j
  ·subst h1; simp
  ·simp [h1,hx]
 have hob:∀ x o,h.lookup x=some o->x ≠ i/\∃ o',hp.lookup (bR0 i j x)=some o'/\o'.aQ0 (renF i j)=some o:=by
  intro x o hl
  obtain ⟨h1,h2⟩:=hh (x,o) (bB0 hl)
  rw [h90] at h2
  obtain ⟨o',h3,q,h4,rfl⟩:=h2
  exact ⟨h1,o',h3,h4⟩
 have hW:=hS.wd
 refine ⟨H,μ',⟨hS.defers,hS.size,fun s v hs=>?_,⟨fun x o hl=>?_,fun x y ox oy bx by' hx hox hy hoy hbx hby heq=>?_,hW.imm,hW.glo⟩⟩,⟨⟨Imm.le_refl H,rfl,rfl,rfl,Nat.le_refl _,fun _ _ _=>rfl,fun b hO hb=>?_,fr0⟩,fun k=>?_⟩⟩
 ·have h1:=hE (s,v) (bB0 hs)
  rw [eM0] at h1
  obtain ⟨u,h2,q,h3,rfl⟩:=h1
  exact R.aQ0 hμ (hS.env s u h2) h3
 ·obtain ⟨h1,o',h2,h3⟩:=hob x o hl
  exact ObOk.aQ0 hμ (hμ _ _ (hun x h1)) (hW.ob _ o' h2) h3
 ·obtain ⟨h1,o1,h2,h3⟩:=hob x ox hx
  obtain ⟨k1,o2,k2,k3⟩:=hob y oy hy
  have e1:=hμ _ _ (hun x h1)
  have e2:=hμ _ _ (hun y k1)
  have:=hW.inj _ _ o1 o2 bx by' h2 (by rw [<- Ob.cL0 h3]; exact hox) k2 (by rw [<- Ob.cL0 k3]; exact hoy) (by rw [<- e1]; exact hbx) (by rw [<- e2]; exact hby) heq
  have r1:=hun x h1
  rw [this,hun y k1] at r1
  injection r1 with r1; exact r1.symm
 ·obtain ⟨x,o,blk,h1,h2,h3,h4⟩:=hO
  obtain ⟨q1,o1,q2,q3⟩:=hob x o h1
  exact ⟨_,o1,blk,q2,by rw [<- Ob.cL0 q3]; exact h2,by rw [<- hμ _ _ (hun x q1)]; exact h3,h4⟩
 ·have:Id.e k ≠ j:=by rintro rfl; cases hj
  simp [μ',this]
theorem Wk.rowB {b id:Id} {off ty sz:Nat} {cs:List V} (hb:hp.lookup b=some (.box cs)) (hc:cs[off]?=some .nil) (hno:V.hasL id cs=false) (hbi:b ≠ id) (hi:id.isL=true:=by rfl) :
  Wk (Env.dg0 [id] env) ((id,.row ty sz true []) :: Hp.set b (.box (cs.set off (.arr id 0 0))) (Hp.dg0 [id] hp)) env hp:=fun n H μ a w hS=>by
 obtain ⟨s1,x1⟩:=hS.clean [id] (by simp [hi])
 have hn:Mu.cut [id] μ id=none:=Mu.cut_in (by simp)
 have hb':(Hp.dg0 [id] hp).lookup b=some (.box cs):=by
  rw [h80,hb]; simp [hbi,Ob.has,hno]
 have hcase:∀ j o,((id,Ob.row ty sz true []) :: Hp.set b (.box (cs.set off (.arr id 0 0))) (Hp.dg0 [id] hp)).lookup j=some o ->
   (j=id/\o=.row ty sz true [])\/(j ≠ id/\j=b/\o=.box (cs.set off (.arr id 0 0)))\/(j ≠ id/\j ≠ b/\(Hp.dg0 [id] hp).lookup j=some o):=by
  intro j o h
  rw [List.lookup_cons] at h
  cases e:(j == id) with
  | true=>rw [e] at h; injection h with h; exact .inl ⟨eq_of_beq e,h.symm⟩
  | false =>
   rw [e] at h
   have hne:j ≠ id:=by simpa using e
   rw [bx0] at h
   by_cases hjb:j=b
   ·subst hjb
    rw [hb'] at h
    simp at h
    exact .inr (.inl ⟨hne,rfl,h.symm⟩)
   ·cases hl:(Hp.dg0 [id] hp).lookup j with
    | none=>rw [hl] at h; cases h
    | some q=>rw [hl] at h; simp [hjb] at h; subst h; exact .inr (.inr ⟨hne,hjb,rfl⟩)
 have hW:=s1.wd
 have hbox:ObOk H (Mu.cut [id] μ) w b (.box (cs.set off (.arr id 0 0))):=by
  obtain ⟨blk,vals,ty,h1,h2,h3,h4,h5⟩:=hW.ob b _ hb'
  refine ⟨blk,vals,ty,h1,h2,by simpa using h3,h4,fun j v hj=>?_⟩
  rw [List.getElem?_set] at hj
  split at hj
  ·rename_i e; subst e
   split at hj
   ·injection hj with hj; subst hj
    obtain ⟨x,q1,q2⟩:=h5 off .nil hc
    refine ⟨x,q1,?_⟩
    cases q2
    exact .arr _ _ _ _ _ (Nat.le_refl _) (.inl rfl)
   ·cases hj
  ·exact h5 j v hj
 have hown:∀ j o blk,((id,Ob.row ty sz true []) :: Hp.set b (.box (cs.set off (.arr id 0 0))) (Hp.dg0 [id] hp)).lookup j=some o->o.own=true->Mu.cut [id] μ j=some blk->∃ o',(Hp.dg0 [id] hp).lookup j=some o'/\o'.own=true:=by
  intro j o blk h1 h2 h3
  rcases hcase j o h1 with ⟨rfl,rfl⟩ | ⟨_,rfl,rfl⟩ | ⟨_,_,h⟩
  ·rw [hn] at h3; cases h3
  ·exact ⟨_,hb',rfl⟩
  ·exact ⟨o,h,h2⟩
 refine ⟨H,Mu.cut [id] μ,⟨s1.defers,s1.size,s1.env,⟨fun j o h=>?_,fun j k oj ok bj bk hj hoj hk hok hbj hbk heq=>?_,hW.imm,hW.glo⟩⟩,x1.trans ⟨⟨Imm.le_refl H,rfl,rfl,rfl,Nat.le_refl _,fun _ _ _=>rfl,fun c hO hc'=>?_,fr0⟩,fun _=>rfl⟩⟩
 ·rcases hcase j o h with ⟨rfl,rfl⟩ | ⟨_,rfl,rfl⟩ | ⟨_,_,h⟩
  ·exact .inl ⟨rfl,hn⟩
  ·exact hbox
  ·exact hW.ob j o h
 ·obtain ⟨o1,p1,p2⟩:=hown j oj bj hj hoj hbj
  obtain ⟨o2,p3,p4⟩:=hown k ok bk hk hok hbk
  exact hW.inj j k o1 o2 bj bk p1 p2 p3 p4 hbj hbk heq
 ·obtain ⟨j,o,blk,h1,h2,h3,h4⟩:=hO
  obtain ⟨o1,p1,p2⟩:=hown j o blk h1 h2 h3
  exact ⟨j,o1,blk,p1,p2,h3,h4⟩
end Go.Am
end

section
namespace Go.Am
inductive Val where
 | mk (kind num:Int) (text:ByteArray) (list:List Val)
 deriving Inhabited
def Val.kind:Val->Int | .mk k _ _ _=>k
def Val.num:Val->Int | .mk _ n _ _=>n
def Val.text:Val->ByteArray | .mk _ _ t _=>t
def Val.list:Val->List Val | .mk _ _ _ l=>l
def Val.cells:Val->List V
 | .mk k n t l=>[.c (.int .i64 k),.c (.int .i64 n),.c (.string t),.lst (l.attach.map fun x=>x.1.cells)]
termination_by v=>v
decreasing_by
 have:=List.sizeOf_lt_of_mem x.2
 simp only [Val.mk.sizeOf_spec]; omega
theorem Val.ac0 (v:Val):v.cells=[.c (.int .i64 v.kind),.c (.int .i64 v.num),.c (.string v.text),.lst (v.list.map Val.cells)]:=by
 obtain ⟨k,n,t,l⟩:=v
 rw [Val.cells]; simp [Val.kind,Val.num,Val.text,Val.list]
theorem Val.flat (x:Val):kG0 x.cells=true:=by rw [Val.ac0]; rfl
@[simp] theorem Val.cu0 (x:Val):x.cells.length=4:=by rw [Val.ac0]; rfl
section
variable {x:Val} {K:V->Prop} {Ks:List V->Prop} {hp:Hp}
@[simp] theorem Val.nth0:nthK x.cells 0 K=K (.c (.int .i64 x.kind)):=by rw [Val.ac0]; simp
@[simp] theorem Val.nth1:nthK x.cells 1 K=K (.c (.int .i64 x.num)):=by rw [Val.ac0]; simp
@[simp] theorem Val.nth2:nthK x.cells 2 K=K (.c (.string x.text)):=by rw [Val.ac0]; simp
@[simp] theorem Val.nth3:nthK x.cells 3 K=K (.lst (x.list.map Val.cells)):=by rw [Val.ac0]; simp
@[simp] theorem Val.sq0:x.cells.take 1=[.c (.int .i64 x.kind)]:=by rw [Val.ac0]; rfl
@[simp] theorem Val.rW0:x.cells.drop 1=[.c (.int .i64 x.num),.c (.string x.text),.lst (x.list.map Val.cells)]:=by rw [Val.ac0]; rfl
@[simp] theorem Val.sr0:x.cells.take 2=[.c (.int .i64 x.kind),.c (.int .i64 x.num)]:=by rw [Val.ac0]; rfl
@[simp] theorem Val.rX0:x.cells.drop 2=[.c (.string x.text),.lst (x.list.map Val.cells)]:=by rw [Val.ac0]; rfl
@[simp] theorem Val.ss0:x.cells.take 3=[.c (.int .i64 x.kind),.c (.int .i64 x.num),.c (.string x.text)]:=by rw [Val.ac0]; rfl
@[simp] theorem Val.rY0:x.cells.drop 3=[.lst (x.list.map Val.cells)]:=by rw [Val.ac0]; rfl
@[simp] theorem Val.take4:x.cells.take 4=x.cells:=List.take_of_length_le (by simp)
@[simp] theorem Val.drop4:x.cells.drop 4=[]:=by rw [Val.ac0]; rfl
@[simp] theorem Val.has0 {i:Id}:V.hasL i x.cells=false:=fE0 x.flat i
@[simp] theorem Val.r80 {ss:List Nat}:V.fG0 ss x.cells=false:=eT0 x.flat ss
@[simp] theorem Val.sd0 {i:Id}:x.cells.map (V.kill i)=x.cells:=gm0 x.flat i
@[simp] theorem Val.jv0:scalars x.cells=true:=ca0 x.flat
@[simp] theorem Val.qP0:V.bt0 x.cells=true:=ec0 x.flat
@[simp] theorem Val.sA0:V.dB0 hp x.cells Ks=Ks x.cells:=gn0 x.flat Ks
@[simp] theorem Val.see0 {nl:Bool} {ks:List Id}:V.seeL nl ks hp x.cells Ks=Ks x.cells:=gM0 x.flat nl ks Ks
@[simp] theorem Val.map0 {f:Id->Option Id}:c70 f x.cells Ks=Ks x.cells:=gL0 x.flat f Ks
@[simp] theorem Val.r90 {ks:List Id}:V.bq0 ks x.cells=x.cells:=eU0 x.flat ks
end
@[simp] theorem Val.jk0 (x:Val):(x.cells=[])=False:=by rw [Val.ac0]; simp
@[simp ↓] theorem Val.head {l:List Val}:(l.map Val.cells=[]\/∃ e,(l.map Val.cells)[0]?=some e/\e.length=4)=True:=head_map fun x=>x.cu0
@[simp] theorem Val.kind_mk {k n t l}:(Val.mk k n t l).kind=k:=rfl
@[simp] theorem Val.num_mk {k n t l}:(Val.mk k n t l).num=n:=rfl
@[simp] theorem Val.text_mk {k n t l}:(Val.mk k n t l).text=t:=rfl
@[simp] theorem Val.list_mk {k n t l}:(Val.mk k n t l).list=l:=rfl
abbrev Val.V (v:Val):V:=.agg v.cells
mutual
def Val.wt:Val->Nat
 | .mk _ _ t l=>1 + t.size + Val.wtL l
def Val.wtL:List Val->Nat
 | []=>0
 | v :: vs=>v.wt + Val.wtL vs
end
end Go.Am
end

section
namespace Go.Am
open Go
abbrev Bs:=List UInt8
structure Tok where
 kind:Int
 text:ByteArray
 num:Int
 at_:Int
 deriving Inhabited
inductive LxR (α:Type) where
 | ok (a:α)
 | bad (at_ e:Int)
def bd0:Bs:=[32,10,9]
def au0:Bs:=[97,98,99,100,101,102,103,104,105,106,107,108,109,110,111,112,113,114,115,116,117,118,119,120,121,122,95]
def al0:Bs:=[48,49,50,51,52,53,54,55,56,57]
def c60:Bs:=[40,41,123,125,91,93,58,59,44,61,60,62,43,45,42,47,37,33,46]
def cv0:List Bs:=[[61,61],[33,61],[60,61],[62,61],[38,38],[124,124]]
def bf0 (set s:Bs) (i:Nat):Nat:=i + ((s.drop i).takeWhile fun c=>set.contains c).length
theorem oY0 {set s:Bs} {i:Nat} (h:i < s.length) (hc:set.contains s[i]=true):bf0 set s i=bf0 set s (i + 1):=by
 unfold bf0
 rw [List.drop_eq_getElem_cons h,List.takeWhile_cons,if_pos hc]
 simp only [List.length_cons]; omega
theorem p60 {set s:Bs} {i:Nat} (h:i < s.length) (hc:set.contains s[i]=false):bf0 set s i=i:=by
 unfold bf0
 rw [List.drop_eq_getElem_cons h,List.takeWhile_cons,if_neg (by simpa using hc)]
 simp
theorem p50 {set s:Bs} {i:Nat} (h:s.length<=i):bf0 set s i=i:=by
 unfold bf0
 rw [List.drop_of_length_le h]; simp
theorem jt0 (set s:Bs) (i:Nat):i<=bf0 set s i:=by unfold bf0; omega
theorem ju0 {set s:Bs} {i:Nat} (h:i<=s.length):bf0 set s i<=s.length:=by
 unfold bf0
 have:=(List.takeWhile_sublist (l:=s.drop i) (fun c=>set.contains c)).length_le
 simp only [List.length_drop] at this; omega
def aR0 (s:Bs):Nat->Nat->Nat
 | 0,i=>i
 | f + 1,i =>
  if s[bf0 bd0 s i]?=some 35 then aR0 s f (if Lib.indexByte (s.drop (bf0 bd0 s i)) 10 < 0 then s.length else bf0 bd0 s i + (Lib.indexByte (s.drop (bf0 bd0 s i)) 10).toNat)
  else bf0 bd0 s i
def numV:Bs->Int->Option Int
 | [],n=>some n
 | c :: l,n=>if n > (9223372036854775807 - ((c.toNat:Int) - 48)).tdiv 10 then none else numV l (n * 10 + ((c.toNat:Int) - 48))
def ic0 (i0:Nat):Bs->Nat->Bs->LxR (Bs × Nat)
 | [],_,_=>.bad i0 30
 | c :: l,j,acc =>
  if c=34 then (if acc.length > 256 then .bad i0 3 else .ok (acc,j + 1))
  else if c < 32\/126 < c then .bad j 30
  else if c=92 then (match l with
   | []=>.bad j 30
   | d :: l'=>if d=34\/d=92 then ic0 i0 l' (j + 2) (acc++[d]) else .bad j 30)
  else ic0 i0 l (j + 1) (acc++[c])
abbrev sB (s:ByteArray):Bs:=s.data.toList
abbrev bS (l:Bs):ByteArray:=⟨⟨l⟩⟩
def lm0 (s:Bs) (i:Nat):LxR (Int × Bs × Int × Nat) :=
 match s[i]? with
 | none=>.bad i 0
 | some c =>
  if au0.contains c then
   (if bf0 (au0++al0) s i - i > 16 then .bad i 3 else .ok (1,(s.drop i).take (bf0 (au0++al0) s i - i),0,bf0 (au0++al0) s i))
  else if al0.contains c then
   (if bf0 al0 s i - i > 1/\c=48 then .bad i 30 else match numV ((s.drop i).take (bf0 al0 s i - i)) 0 with
    | none=>.bad i 3
    | some n=>.ok (2,(s.drop i).take (bf0 al0 s i - i),n,bf0 al0 s i))
  else if c=34 then (match ic0 i (s.drop (i + 1)) (i + 1) [] with
   | .bad a e=>.bad a e
   | .ok (t,j)=>.ok (3,t,0,j))
  else if cv0.contains ((s.drop i).take 2) then .ok (4,(s.drop i).take 2,0,i + 2)
  else if c60.contains c then .ok (4,[c],0,i + 1)
  else .bad i 30
def jN0 (s:Bs):Nat->Nat->List Tok->LxR (List Tok)
 | 0,i,_=>.bad i 0
 | f + 1,i,out =>
  if s.length<=aR0 s (s.length + 1) i then (if out.length>=4096 then .bad (aR0 s (s.length + 1) i) 36 else .ok (out++[⟨5,bS [],0,aR0 s (s.length + 1) i⟩]))
  else match lm0 s (aR0 s (s.length + 1) i) with
   | .bad a e=>.bad a e
   | .ok (k,t,n,j)=>if out.length>=4096 then .bad (aR0 s (s.length + 1) i) 36 else jN0 s f j (out++[⟨k,bS t,n,aR0 s (s.length + 1) i⟩])
def hJ0 (s:Bs):LxR (List Tok):=if s.length > 16384 then .bad 16384 3 else jN0 s (s.length + 1) 0 []
end Go.Am
end

section
namespace Go.Am
def Tok.cells (x:Tok):List V:=[.c (.int .i64 x.kind),.c (.string x.text),.c (.int .i64 x.num),.c (.int .i64 x.at_)]
theorem Tok.ac0 (x:Tok):x.cells=[.c (.int .i64 x.kind),.c (.string x.text),.c (.int .i64 x.num),.c (.int .i64 x.at_)]:=rfl
theorem Tok.flat (x:Tok):kG0 x.cells=true:=by rw [Tok.ac0]; rfl
@[simp] theorem Tok.cu0 (x:Tok):x.cells.length=4:=by rw [Tok.ac0]; rfl
section
variable {x:Tok} {K:V->Prop} {Ks:List V->Prop} {hp:Hp}
@[simp] theorem Tok.nth0:nthK x.cells 0 K=K (.c (.int .i64 x.kind)):=by rw [Tok.ac0]; simp
@[simp] theorem Tok.nth1:nthK x.cells 1 K=K (.c (.string x.text)):=by rw [Tok.ac0]; simp
@[simp] theorem Tok.nth2:nthK x.cells 2 K=K (.c (.int .i64 x.num)):=by rw [Tok.ac0]; simp
@[simp] theorem Tok.nth3:nthK x.cells 3 K=K (.c (.int .i64 x.at_)):=by rw [Tok.ac0]; simp
@[simp] theorem Tok.sq0:x.cells.take 1=[.c (.int .i64 x.kind)]:=by rw [Tok.ac0]; rfl
@[simp] theorem Tok.rW0:x.cells.drop 1=[.c (.string x.text),.c (.int .i64 x.num),.c (.int .i64 x.at_)]:=by rw [Tok.ac0]; rfl
@[simp] theorem Tok.sr0:x.cells.take 2=[.c (.int .i64 x.kind),.c (.string x.text)]:=by rw [Tok.ac0]; rfl
@[simp] theorem Tok.rX0:x.cells.drop 2=[.c (.int .i64 x.num),.c (.int .i64 x.at_)]:=by rw [Tok.ac0]; rfl
@[simp] theorem Tok.ss0:x.cells.take 3=[.c (.int .i64 x.kind),.c (.string x.text),.c (.int .i64 x.num)]:=by rw [Tok.ac0]; rfl
@[simp] theorem Tok.rY0:x.cells.drop 3=[.c (.int .i64 x.at_)]:=by rw [Tok.ac0]; rfl
@[simp] theorem Tok.take4:x.cells.take 4=x.cells:=List.take_of_length_le (by simp)
@[simp] theorem Tok.drop4:x.cells.drop 4=[]:=by rw [Tok.ac0]; rfl
@[simp] theorem Tok.has0 {i:Id}:V.hasL i x.cells=false:=fE0 x.flat i
@[simp] theorem Tok.r80 {ss:List Nat}:V.fG0 ss x.cells=false:=eT0 x.flat ss
@[simp] theorem Tok.sd0 {i:Id}:x.cells.map (V.kill i)=x.cells:=gm0 x.flat i
@[simp] theorem Tok.jv0:scalars x.cells=true:=ca0 x.flat
@[simp] theorem Tok.qP0:V.bt0 x.cells=true:=ec0 x.flat
@[simp] theorem Tok.sA0:V.dB0 hp x.cells Ks=Ks x.cells:=gn0 x.flat Ks
@[simp] theorem Tok.see0 {nl:Bool} {ks:List Id}:V.seeL nl ks hp x.cells Ks=Ks x.cells:=gM0 x.flat nl ks Ks
@[simp] theorem Tok.map0 {f:Id->Option Id}:c70 f x.cells Ks=Ks x.cells:=gL0 x.flat f Ks
@[simp] theorem Tok.r90 {ks:List Id}:V.bq0 ks x.cells=x.cells:=eU0 x.flat ks
end
@[simp] theorem Tok.jk0 (x:Tok):(x.cells=[])=False:=by rw [Tok.ac0]; simp
@[simp ↓] theorem Tok.head {l:List Tok}:(l.map Tok.cells=[]\/∃ e,(l.map Tok.cells)[0]?=some e/\e.length=4)=True:=head_map fun x=>x.cu0
abbrev Tok.V (x:Tok):V:=.agg x.cells
structure Slo where
 name:ByteArray
 type:ByteArray
 at_:Int
 deriving Inhabited
def Slo.cells (x:Slo):List V:=[.c (.string x.name),.c (.string x.type),.c (.int .i64 x.at_)]
theorem Slo.ac0 (x:Slo):x.cells=[.c (.string x.name),.c (.string x.type),.c (.int .i64 x.at_)]:=rfl
theorem Slo.flat (x:Slo):kG0 x.cells=true:=by rw [Slo.ac0]; rfl
@[simp] theorem Slo.cu0 (x:Slo):x.cells.length=3:=by rw [Slo.ac0]; rfl
section
variable {x:Slo} {K:V->Prop} {Ks:List V->Prop} {hp:Hp}
@[simp] theorem Slo.nth0:nthK x.cells 0 K=K (.c (.string x.name)):=by rw [Slo.ac0]; simp
@[simp] theorem Slo.nth1:nthK x.cells 1 K=K (.c (.string x.type)):=by rw [Slo.ac0]; simp
@[simp] theorem Slo.nth2:nthK x.cells 2 K=K (.c (.int .i64 x.at_)):=by rw [Slo.ac0]; simp
@[simp] theorem Slo.sq0:x.cells.take 1=[.c (.string x.name)]:=by rw [Slo.ac0]; rfl
@[simp] theorem Slo.rW0:x.cells.drop 1=[.c (.string x.type),.c (.int .i64 x.at_)]:=by rw [Slo.ac0]; rfl
@[simp] theorem Slo.sr0:x.cells.take 2=[.c (.string x.name),.c (.string x.type)]:=by rw [Slo.ac0]; rfl
@[simp] theorem Slo.rX0:x.cells.drop 2=[.c (.int .i64 x.at_)]:=by rw [Slo.ac0]; rfl
@[simp] theorem Slo.ss0:x.cells.take 3=x.cells:=List.take_of_length_le (by simp)
@[simp] theorem Slo.rY0:x.cells.drop 3=[]:=by rw [Slo.ac0]; rfl
@[simp] theorem Slo.has0 {i:Id}:V.hasL i x.cells=false:=fE0 x.flat i
@[simp] theorem Slo.r80 {ss:List Nat}:V.fG0 ss x.cells=false:=eT0 x.flat ss
@[simp] theorem Slo.sd0 {i:Id}:x.cells.map (V.kill i)=x.cells:=gm0 x.flat i
@[simp] theorem Slo.jv0:scalars x.cells=true:=ca0 x.flat
@[simp] theorem Slo.qP0:V.bt0 x.cells=true:=ec0 x.flat
@[simp] theorem Slo.sA0:V.dB0 hp x.cells Ks=Ks x.cells:=gn0 x.flat Ks
@[simp] theorem Slo.see0 {nl:Bool} {ks:List Id}:V.seeL nl ks hp x.cells Ks=Ks x.cells:=gM0 x.flat nl ks Ks
@[simp] theorem Slo.map0 {f:Id->Option Id}:c70 f x.cells Ks=Ks x.cells:=gL0 x.flat f Ks
@[simp] theorem Slo.r90 {ks:List Id}:V.bq0 ks x.cells=x.cells:=eU0 x.flat ks
end
@[simp] theorem Slo.jk0 (x:Slo):(x.cells=[])=False:=by rw [Slo.ac0]; simp
@[simp ↓] theorem Slo.head {l:List Slo}:(l.map Slo.cells=[]\/∃ e,(l.map Slo.cells)[0]?=some e/\e.length=3)=True:=head_map fun x=>x.cu0
abbrev Slo.V (x:Slo):V:=.agg x.cells
inductive Exq where
 | mk (kind op num:Int) (text:ByteArray) (slot:Int) (type:ByteArray) (args:List Exq) (at_:Int)
 deriving Inhabited
def Exq.kind:Exq->Int | .mk k _ _ _ _ _ _ _=>k
def Exq.op:Exq->Int | .mk _ o _ _ _ _ _ _=>o
def Exq.num:Exq->Int | .mk _ _ n _ _ _ _ _=>n
def Exq.text:Exq->ByteArray | .mk _ _ _ t _ _ _ _=>t
def Exq.slot:Exq->Int | .mk _ _ _ _ s _ _ _=>s
def Exq.type:Exq->ByteArray | .mk _ _ _ _ _ y _ _=>y
def Exq.args:Exq->List Exq | .mk _ _ _ _ _ _ l _=>l
def Exq.at_:Exq->Int | .mk _ _ _ _ _ _ _ a=>a
def Exq.cells:Exq->List V
 | .mk k o n t s y l a=>[.c (.int .i64 k),.c (.int .i64 o),.c (.int .i64 n),.c (.string t),.c (.int .i64 s),.c (.string y),.lst (l.attach.map fun x=>x.1.cells),.c (.int .i64 a)]
termination_by v=>v
decreasing_by
 have:=List.sizeOf_lt_of_mem x.2
 simp only [Exq.mk.sizeOf_spec]; omega
theorem Exq.ac0 (x:Exq):x.cells=[.c (.int .i64 x.kind),.c (.int .i64 x.op),.c (.int .i64 x.num),.c (.string x.text),.c (.int .i64 x.slot),.c (.string x.type),.lst (x.args.map Exq.cells),.c (.int .i64 x.at_)]:=by
 obtain ⟨k,o,n,t,s,y,l,a⟩:=x
 rw [Exq.cells]; simp [Exq.kind,Exq.op,Exq.num,Exq.text,Exq.slot,Exq.type,Exq.args,Exq.at_]
theorem Exq.flat (x:Exq):kG0 x.cells=true:=by rw [Exq.ac0]; rfl
@[simp] theorem Exq.cu0 (x:Exq):x.cells.length=8:=by rw [Exq.ac0]; rfl
section
variable {x:Exq} {K:V->Prop} {Ks:List V->Prop} {hp:Hp}
@[simp] theorem Exq.nth0:nthK x.cells 0 K=K (.c (.int .i64 x.kind)):=by rw [Exq.ac0]; simp
@[simp] theorem Exq.nth1:nthK x.cells 1 K=K (.c (.int .i64 x.op)):=by rw [Exq.ac0]; simp
@[simp] theorem Exq.nth2:nthK x.cells 2 K=K (.c (.int .i64 x.num)):=by rw [Exq.ac0]; simp
@[simp] theorem Exq.nth3:nthK x.cells 3 K=K (.c (.string x.text)):=by rw [Exq.ac0]; simp
@[simp] theorem Exq.nth4:nthK x.cells 4 K=K (.c (.int .i64 x.slot)):=by rw [Exq.ac0]; simp
@[simp] theorem Exq.nth5:nthK x.cells 5 K=K (.c (.string x.type)):=by rw [Exq.ac0]; simp
@[simp] theorem Exq.nth6:nthK x.cells 6 K=K (.lst (x.args.map Exq.cells)):=by rw [Exq.ac0]; simp
@[simp] theorem Exq.nth7:nthK x.cells 7 K=K (.c (.int .i64 x.at_)):=by rw [Exq.ac0]; simp
@[simp] theorem Exq.sq0:x.cells.take 1=[.c (.int .i64 x.kind)]:=by rw [Exq.ac0]; rfl
@[simp] theorem Exq.rW0:x.cells.drop 1=[.c (.int .i64 x.op),.c (.int .i64 x.num),.c (.string x.text),.c (.int .i64 x.slot),.c (.string x.type),.lst (x.args.map Exq.cells),.c (.int .i64 x.at_)]:=by rw [Exq.ac0]; rfl
@[simp] theorem Exq.sr0:x.cells.take 2=[.c (.int .i64 x.kind),.c (.int .i64 x.op)]:=by rw [Exq.ac0]; rfl
@[simp] theorem Exq.rX0:x.cells.drop 2=[.c (.int .i64 x.num),.c (.string x.text),.c (.int .i64 x.slot),.c (.string x.type),.lst (x.args.map Exq.cells),.c (.int .i64 x.at_)]:=by rw [Exq.ac0]; rfl
@[simp] theorem Exq.ss0:x.cells.take 3=[.c (.int .i64 x.kind),.c (.int .i64 x.op),.c (.int .i64 x.num)]:=by rw [Exq.ac0]; rfl
@[simp] theorem Exq.rY0:x.cells.drop 3=[.c (.string x.text),.c (.int .i64 x.slot),.c (.string x.type),.lst (x.args.map Exq.cells),.c (.int .i64 x.at_)]:=by rw [Exq.ac0]; rfl
@[simp] theorem Exq.take4:x.cells.take 4=[.c (.int .i64 x.kind),.c (.int .i64 x.op),.c (.int .i64 x.num),.c (.string x.text)]:=by rw [Exq.ac0]; rfl
@[simp] theorem Exq.drop4:x.cells.drop 4=[.c (.int .i64 x.slot),.c (.string x.type),.lst (x.args.map Exq.cells),.c (.int .i64 x.at_)]:=by rw [Exq.ac0]; rfl
@[simp] theorem Exq.take5:x.cells.take 5=[.c (.int .i64 x.kind),.c (.int .i64 x.op),.c (.int .i64 x.num),.c (.string x.text),.c (.int .i64 x.slot)]:=by rw [Exq.ac0]; rfl
@[simp] theorem Exq.drop5:x.cells.drop 5=[.c (.string x.type),.lst (x.args.map Exq.cells),.c (.int .i64 x.at_)]:=by rw [Exq.ac0]; rfl
@[simp] theorem Exq.take6:x.cells.take 6=[.c (.int .i64 x.kind),.c (.int .i64 x.op),.c (.int .i64 x.num),.c (.string x.text),.c (.int .i64 x.slot),.c (.string x.type)]:=by rw [Exq.ac0]; rfl
@[simp] theorem Exq.drop6:x.cells.drop 6=[.lst (x.args.map Exq.cells),.c (.int .i64 x.at_)]:=by rw [Exq.ac0]; rfl
@[simp] theorem Exq.take7:x.cells.take 7=[.c (.int .i64 x.kind),.c (.int .i64 x.op),.c (.int .i64 x.num),.c (.string x.text),.c (.int .i64 x.slot),.c (.string x.type),.lst (x.args.map Exq.cells)]:=by rw [Exq.ac0]; rfl
@[simp] theorem Exq.drop7:x.cells.drop 7=[.c (.int .i64 x.at_)]:=by rw [Exq.ac0]; rfl
@[simp] theorem Exq.take8:x.cells.take 8=x.cells:=List.take_of_length_le (by simp)
@[simp] theorem Exq.drop8:x.cells.drop 8=[]:=by rw [Exq.ac0]; rfl
@[simp] theorem Exq.has0 {i:Id}:V.hasL i x.cells=false:=fE0 x.flat i
@[simp] theorem Exq.r80 {ss:List Nat}:V.fG0 ss x.cells=false:=eT0 x.flat ss
@[simp] theorem Exq.sd0 {i:Id}:x.cells.map (V.kill i)=x.cells:=gm0 x.flat i
@[simp] theorem Exq.jv0:scalars x.cells=true:=ca0 x.flat
@[simp] theorem Exq.qP0:V.bt0 x.cells=true:=ec0 x.flat
@[simp] theorem Exq.sA0:V.dB0 hp x.cells Ks=Ks x.cells:=gn0 x.flat Ks
@[simp] theorem Exq.see0 {nl:Bool} {ks:List Id}:V.seeL nl ks hp x.cells Ks=Ks x.cells:=gM0 x.flat nl ks Ks
@[simp] theorem Exq.map0 {f:Id->Option Id}:c70 f x.cells Ks=Ks x.cells:=gL0 x.flat f Ks
@[simp] theorem Exq.r90 {ks:List Id}:V.bq0 ks x.cells=x.cells:=eU0 x.flat ks
end
@[simp] theorem Exq.jk0 (x:Exq):(x.cells=[])=False:=by rw [Exq.ac0]; simp
@[simp ↓] theorem Exq.head {l:List Exq}:(l.map Exq.cells=[]\/∃ e,(l.map Exq.cells)[0]?=some e/\e.length=8)=True:=head_map fun x=>x.cu0
abbrev Exq.V (x:Exq):V:=.agg x.cells
inductive Stm where
 | mk (kind:Int) (name:ByteArray) (slot:Int) (state:Bool) (num:Int) (e:List Exq) (body els:List Stm) (at_:Int)
 deriving Inhabited
def Stm.kind:Stm->Int | .mk k _ _ _ _ _ _ _ _=>k
def Stm.name:Stm->ByteArray | .mk _ n _ _ _ _ _ _ _=>n
def Stm.slot:Stm->Int | .mk _ _ s _ _ _ _ _ _=>s
def Stm.state:Stm->Bool | .mk _ _ _ s _ _ _ _ _=>s
def Stm.num:Stm->Int | .mk _ _ _ _ n _ _ _ _=>n
def Stm.e:Stm->List Exq | .mk _ _ _ _ _ e _ _ _=>e
def Stm.body:Stm->List Stm | .mk _ _ _ _ _ _ b _ _=>b
def Stm.els:Stm->List Stm | .mk _ _ _ _ _ _ _ c _=>c
def Stm.at_:Stm->Int | .mk _ _ _ _ _ _ _ _ a=>a
def Stm.cells:Stm->List V
 | .mk k n s st m e b c a=>[.c (.int .i64 k),.c (.string n),.c (.int .i64 s),.c (.bool st),.c (.int .i64 m),.lst (e.map Exq.cells),.lst (b.attach.map fun x=>x.1.cells),.lst (c.attach.map fun x=>x.1.cells),.c (.int .i64 a)]
termination_by v=>v
decreasing_by
 all_goals
  have:=List.sizeOf_lt_of_mem x.2
  simp only [Stm.mk.sizeOf_spec]; omega
theorem Stm.ac0 (x:Stm):x.cells=[.c (.int .i64 x.kind),.c (.string x.name),.c (.int .i64 x.slot),.c (.bool x.state),.c (.int .i64 x.num),.lst (x.e.map Exq.cells),.lst (x.body.map Stm.cells),.lst (x.els.map Stm.cells),.c (.int .i64 x.at_)]:=by
 obtain ⟨k,n,s,st,m,e,b,c,a⟩:=x
 rw [Stm.cells]; simp [Stm.kind,Stm.name,Stm.slot,Stm.state,Stm.num,Stm.e,Stm.body,Stm.els,Stm.at_]
theorem Stm.flat (x:Stm):kG0 x.cells=true:=by rw [Stm.ac0]; rfl
@[simp] theorem Stm.cu0 (x:Stm):x.cells.length=9:=by rw [Stm.ac0]; rfl
section
variable {x:Stm} {K:V->Prop} {Ks:List V->Prop} {hp:Hp}
@[simp] theorem Stm.nth0:nthK x.cells 0 K=K (.c (.int .i64 x.kind)):=by rw [Stm.ac0]; simp
@[simp] theorem Stm.nth1:nthK x.cells 1 K=K (.c (.string x.name)):=by rw [Stm.ac0]; simp
@[simp] theorem Stm.nth2:nthK x.cells 2 K=K (.c (.int .i64 x.slot)):=by rw [Stm.ac0]; simp
@[simp] theorem Stm.nth3:nthK x.cells 3 K=K (.c (.bool x.state)):=by rw [Stm.ac0]; simp
@[simp] theorem Stm.nth4:nthK x.cells 4 K=K (.c (.int .i64 x.num)):=by rw [Stm.ac0]; simp
@[simp] theorem Stm.nth5:nthK x.cells 5 K=K (.lst (x.e.map Exq.cells)):=by rw [Stm.ac0]; simp
@[simp] theorem Stm.nth6:nthK x.cells 6 K=K (.lst (x.body.map Stm.cells)):=by rw [Stm.ac0]; simp
@[simp] theorem Stm.nth7:nthK x.cells 7 K=K (.lst (x.els.map Stm.cells)):=by rw [Stm.ac0]; simp
@[simp] theorem Stm.sq0:x.cells.take 1=[.c (.int .i64 x.kind)]:=by rw [Stm.ac0]; rfl
@[simp] theorem Stm.rW0:x.cells.drop 1=[.c (.string x.name),.c (.int .i64 x.slot),.c (.bool x.state),.c (.int .i64 x.num),.lst (x.e.map Exq.cells),.lst (x.body.map Stm.cells),.lst (x.els.map Stm.cells),.c (.int .i64 x.at_)]:=by rw [Stm.ac0]; rfl
@[simp] theorem Stm.sr0:x.cells.take 2=[.c (.int .i64 x.kind),.c (.string x.name)]:=by rw [Stm.ac0]; rfl
@[simp] theorem Stm.rX0:x.cells.drop 2=[.c (.int .i64 x.slot),.c (.bool x.state),.c (.int .i64 x.num),.lst (x.e.map Exq.cells),.lst (x.body.map Stm.cells),.lst (x.els.map Stm.cells),.c (.int .i64 x.at_)]:=by rw [Stm.ac0]; rfl
@[simp] theorem Stm.ss0:x.cells.take 3=[.c (.int .i64 x.kind),.c (.string x.name),.c (.int .i64 x.slot)]:=by rw [Stm.ac0]; rfl
@[simp] theorem Stm.rY0:x.cells.drop 3=[.c (.bool x.state),.c (.int .i64 x.num),.lst (x.e.map Exq.cells),.lst (x.body.map Stm.cells),.lst (x.els.map Stm.cells),.c (.int .i64 x.at_)]:=by rw [Stm.ac0]; rfl
@[simp] theorem Stm.take4:x.cells.take 4=[.c (.int .i64 x.kind),.c (.string x.name),.c (.int .i64 x.slot),.c (.bool x.state)]:=by rw [Stm.ac0]; rfl
@[simp] theorem Stm.drop4:x.cells.drop 4=[.c (.int .i64 x.num),.lst (x.e.map Exq.cells),.lst (x.body.map Stm.cells),.lst (x.els.map Stm.cells),.c (.int .i64 x.at_)]:=by rw [Stm.ac0]; rfl
@[simp] theorem Stm.take5:x.cells.take 5=[.c (.int .i64 x.kind),.c (.string x.name),.c (.int .i64 x.slot),.c (.bool x.state),.c (.int .i64 x.num)]:=by rw [Stm.ac0]; rfl
@[simp] theorem Stm.drop5:x.cells.drop 5=[.lst (x.e.map Exq.cells),.lst (x.body.map Stm.cells),.lst (x.els.map Stm.cells),.c (.int .i64 x.at_)]:=by rw [Stm.ac0]; rfl
@[simp] theorem Stm.take6:x.cells.take 6=[.c (.int .i64 x.kind),.c (.string x.name),.c (.int .i64 x.slot),.c (.bool x.state),.c (.int .i64 x.num),.lst (x.e.map Exq.cells)]:=by rw [Stm.ac0]; rfl
@[simp] theorem Stm.drop6:x.cells.drop 6=[.lst (x.body.map Stm.cells),.lst (x.els.map Stm.cells),.c (.int .i64 x.at_)]:=by rw [Stm.ac0]; rfl
@[simp] theorem Stm.take7:x.cells.take 7=[.c (.int .i64 x.kind),.c (.string x.name),.c (.int .i64 x.slot),.c (.bool x.state),.c (.int .i64 x.num),.lst (x.e.map Exq.cells),.lst (x.body.map Stm.cells)]:=by rw [Stm.ac0]; rfl
@[simp] theorem Stm.drop7:x.cells.drop 7=[.lst (x.els.map Stm.cells),.c (.int .i64 x.at_)]:=by rw [Stm.ac0]; rfl
@[simp] theorem Stm.take8:x.cells.take 8=[.c (.int .i64 x.kind),.c (.string x.name),.c (.int .i64 x.slot),.c (.bool x.state),.c (.int .i64 x.num),.lst (x.e.map Exq.cells),.lst (x.body.map Stm.cells),.lst (x.els.map Stm.cells)]:=by rw [Stm.ac0]; rfl
@[simp] theorem Stm.drop8:x.cells.drop 8=[.c (.int .i64 x.at_)]:=by rw [Stm.ac0]; rfl
@[simp] theorem Stm.take9:x.cells.take 9=x.cells:=List.take_of_length_le (by simp)
@[simp] theorem Stm.has0 {i:Id}:V.hasL i x.cells=false:=fE0 x.flat i
@[simp] theorem Stm.r80 {ss:List Nat}:V.fG0 ss x.cells=false:=eT0 x.flat ss
@[simp] theorem Stm.sd0 {i:Id}:x.cells.map (V.kill i)=x.cells:=gm0 x.flat i
@[simp] theorem Stm.jv0:scalars x.cells=true:=ca0 x.flat
@[simp] theorem Stm.qP0:V.bt0 x.cells=true:=ec0 x.flat
@[simp] theorem Stm.sA0:V.dB0 hp x.cells Ks=Ks x.cells:=gn0 x.flat Ks
@[simp] theorem Stm.see0 {nl:Bool} {ks:List Id}:V.seeL nl ks hp x.cells Ks=Ks x.cells:=gM0 x.flat nl ks Ks
@[simp] theorem Stm.map0 {f:Id->Option Id}:c70 f x.cells Ks=Ks x.cells:=gL0 x.flat f Ks
@[simp] theorem Stm.r90 {ks:List Id}:V.bq0 ks x.cells=x.cells:=eU0 x.flat ks
end
@[simp] theorem Stm.jk0 (x:Stm):(x.cells=[])=False:=by rw [Stm.ac0]; simp
@[simp ↓] theorem Stm.head {l:List Stm}:(l.map Stm.cells=[]\/∃ e,(l.map Stm.cells)[0]?=some e/\e.length=9)=True:=head_map fun x=>x.cu0
abbrev Stm.V (x:Stm):V:=.agg x.cells
abbrev fh0 (s:ByteArray):List V:=[.c (.string s)]
structure Fun where
 name:ByteArray
 on:Bool
 params:List Slo
 result:ByteArray
 locals:List ByteArray
 body:List Stm
 at_:Int
 deriving Inhabited
def Fun.cells (x:Fun):List V:=[.c (.string x.name),.c (.bool x.on),.lst (x.params.map Slo.cells),.c (.string x.result),.lst (x.locals.map fh0),.lst (x.body.map Stm.cells),.c (.int .i64 x.at_)]
theorem Fun.ac0 (x:Fun):x.cells=[.c (.string x.name),.c (.bool x.on),.lst (x.params.map Slo.cells),.c (.string x.result),.lst (x.locals.map fh0),.lst (x.body.map Stm.cells),.c (.int .i64 x.at_)]:=rfl
theorem Fun.flat (x:Fun):kG0 x.cells=true:=by rw [Fun.ac0]; rfl
@[simp] theorem Fun.cu0 (x:Fun):x.cells.length=7:=by rw [Fun.ac0]; rfl
section
variable {x:Fun} {K:V->Prop} {Ks:List V->Prop} {hp:Hp}
@[simp] theorem Fun.nth0:nthK x.cells 0 K=K (.c (.string x.name)):=by rw [Fun.ac0]; simp
@[simp] theorem Fun.nth1:nthK x.cells 1 K=K (.c (.bool x.on)):=by rw [Fun.ac0]; simp
@[simp] theorem Fun.nth2:nthK x.cells 2 K=K (.lst (x.params.map Slo.cells)):=by rw [Fun.ac0]; simp
@[simp] theorem Fun.nth3:nthK x.cells 3 K=K (.c (.string x.result)):=by rw [Fun.ac0]; simp
@[simp] theorem Fun.nth4:nthK x.cells 4 K=K (.lst (x.locals.map fh0)):=by rw [Fun.ac0]; simp
@[simp] theorem Fun.nth5:nthK x.cells 5 K=K (.lst (x.body.map Stm.cells)):=by rw [Fun.ac0]; simp
@[simp] theorem Fun.nth6:nthK x.cells 6 K=K (.c (.int .i64 x.at_)):=by rw [Fun.ac0]; simp
@[simp] theorem Fun.sq0:x.cells.take 1=[.c (.string x.name)]:=by rw [Fun.ac0]; rfl
@[simp] theorem Fun.rW0:x.cells.drop 1=[.c (.bool x.on),.lst (x.params.map Slo.cells),.c (.string x.result),.lst (x.locals.map fh0),.lst (x.body.map Stm.cells),.c (.int .i64 x.at_)]:=by rw [Fun.ac0]; rfl
@[simp] theorem Fun.sr0:x.cells.take 2=[.c (.string x.name),.c (.bool x.on)]:=by rw [Fun.ac0]; rfl
@[simp] theorem Fun.rX0:x.cells.drop 2=[.lst (x.params.map Slo.cells),.c (.string x.result),.lst (x.locals.map fh0),.lst (x.body.map Stm.cells),.c (.int .i64 x.at_)]:=by rw [Fun.ac0]; rfl
@[simp] theorem Fun.ss0:x.cells.take 3=[.c (.string x.name),.c (.bool x.on),.lst (x.params.map Slo.cells)]:=by rw [Fun.ac0]; rfl
@[simp] theorem Fun.rY0:x.cells.drop 3=[.c (.string x.result),.lst (x.locals.map fh0),.lst (x.body.map Stm.cells),.c (.int .i64 x.at_)]:=by rw [Fun.ac0]; rfl
@[simp] theorem Fun.take4:x.cells.take 4=[.c (.string x.name),.c (.bool x.on),.lst (x.params.map Slo.cells),.c (.string x.result)]:=by rw [Fun.ac0]; rfl
@[simp] theorem Fun.drop4:x.cells.drop 4=[.lst (x.locals.map fh0),.lst (x.body.map Stm.cells),.c (.int .i64 x.at_)]:=by rw [Fun.ac0]; rfl
@[simp] theorem Fun.take5:x.cells.take 5=[.c (.string x.name),.c (.bool x.on),.lst (x.params.map Slo.cells),.c (.string x.result),.lst (x.locals.map fh0)]:=by rw [Fun.ac0]; rfl
@[simp] theorem Fun.drop5:x.cells.drop 5=[.lst (x.body.map Stm.cells),.c (.int .i64 x.at_)]:=by rw [Fun.ac0]; rfl
@[simp] theorem Fun.take6:x.cells.take 6=[.c (.string x.name),.c (.bool x.on),.lst (x.params.map Slo.cells),.c (.string x.result),.lst (x.locals.map fh0),.lst (x.body.map Stm.cells)]:=by rw [Fun.ac0]; rfl
@[simp] theorem Fun.drop6:x.cells.drop 6=[.c (.int .i64 x.at_)]:=by rw [Fun.ac0]; rfl
@[simp] theorem Fun.take7:x.cells.take 7=x.cells:=List.take_of_length_le (by simp)
@[simp] theorem Fun.drop7:x.cells.drop 7=[]:=by rw [Fun.ac0]; rfl
@[simp] theorem Fun.has0 {i:Id}:V.hasL i x.cells=false:=fE0 x.flat i
@[simp] theorem Fun.r80 {ss:List Nat}:V.fG0 ss x.cells=false:=eT0 x.flat ss
@[simp] theorem Fun.sd0 {i:Id}:x.cells.map (V.kill i)=x.cells:=gm0 x.flat i
@[simp] theorem Fun.jv0:scalars x.cells=true:=ca0 x.flat
@[simp] theorem Fun.qP0:V.bt0 x.cells=true:=ec0 x.flat
@[simp] theorem Fun.sA0:V.dB0 hp x.cells Ks=Ks x.cells:=gn0 x.flat Ks
@[simp] theorem Fun.see0 {nl:Bool} {ks:List Id}:V.seeL nl ks hp x.cells Ks=Ks x.cells:=gM0 x.flat nl ks Ks
@[simp] theorem Fun.map0 {f:Id->Option Id}:c70 f x.cells Ks=Ks x.cells:=gL0 x.flat f Ks
@[simp] theorem Fun.r90 {ks:List Id}:V.bq0 ks x.cells=x.cells:=eU0 x.flat ks
end
@[simp] theorem Fun.jk0 (x:Fun):(x.cells=[])=False:=by rw [Fun.ac0]; simp
@[simp ↓] theorem Fun.head {l:List Fun}:(l.map Fun.cells=[]\/∃ e,(l.map Fun.cells)[0]?=some e/\e.length=7)=True:=head_map fun x=>x.cu0
abbrev Fun.V (x:Fun):V:=.agg x.cells
structure Prg where
 version:Int
 bN0:List Slo
 fns:List Fun
 deriving Inhabited
def Prg.cells (x:Prg):List V:=[.c (.int .i64 x.version),.lst (x.bN0.map Slo.cells),.lst (x.fns.map Fun.cells)]
theorem Prg.ac0 (x:Prg):x.cells=[.c (.int .i64 x.version),.lst (x.bN0.map Slo.cells),.lst (x.fns.map Fun.cells)]:=rfl
theorem Prg.flat (x:Prg):kG0 x.cells=true:=by rw [Prg.ac0]; rfl
@[simp] theorem Prg.cu0 (x:Prg):x.cells.length=3:=by rw [Prg.ac0]; rfl
section
variable {x:Prg} {K:V->Prop} {Ks:List V->Prop} {hp:Hp}
@[simp] theorem Prg.nth0:nthK x.cells 0 K=K (.c (.int .i64 x.version)):=by rw [Prg.ac0]; simp
@[simp] theorem Prg.nth1:nthK x.cells 1 K=K (.lst (x.bN0.map Slo.cells)):=by rw [Prg.ac0]; simp
@[simp] theorem Prg.nth2:nthK x.cells 2 K=K (.lst (x.fns.map Fun.cells)):=by rw [Prg.ac0]; simp
@[simp] theorem Prg.sq0:x.cells.take 1=[.c (.int .i64 x.version)]:=by rw [Prg.ac0]; rfl
@[simp] theorem Prg.rW0:x.cells.drop 1=[.lst (x.bN0.map Slo.cells),.lst (x.fns.map Fun.cells)]:=by rw [Prg.ac0]; rfl
@[simp] theorem Prg.sr0:x.cells.take 2=[.c (.int .i64 x.version),.lst (x.bN0.map Slo.cells)]:=by rw [Prg.ac0]; rfl
@[simp] theorem Prg.rX0:x.cells.drop 2=[.lst (x.fns.map Fun.cells)]:=by rw [Prg.ac0]; rfl
@[simp] theorem Prg.ss0:x.cells.take 3=x.cells:=List.take_of_length_le (by simp)
@[simp] theorem Prg.rY0:x.cells.drop 3=[]:=by rw [Prg.ac0]; rfl
@[simp] theorem Prg.has0 {i:Id}:V.hasL i x.cells=false:=fE0 x.flat i
@[simp] theorem Prg.r80 {ss:List Nat}:V.fG0 ss x.cells=false:=eT0 x.flat ss
@[simp] theorem Prg.sd0 {i:Id}:x.cells.map (V.kill i)=x.cells:=gm0 x.flat i
@[simp] theorem Prg.jv0:scalars x.cells=true:=ca0 x.flat
@[simp] theorem Prg.qP0:V.bt0 x.cells=true:=ec0 x.flat
@[simp] theorem Prg.sA0:V.dB0 hp x.cells Ks=Ks x.cells:=gn0 x.flat Ks
@[simp] theorem Prg.see0 {nl:Bool} {ks:List Id}:V.seeL nl ks hp x.cells Ks=Ks x.cells:=gM0 x.flat nl ks Ks
@[simp] theorem Prg.map0 {f:Id->Option Id}:c70 f x.cells Ks=Ks x.cells:=gL0 x.flat f Ks
@[simp] theorem Prg.r90 {ks:List Id}:V.bq0 ks x.cells=x.cells:=eU0 x.flat ks
end
@[simp] theorem Prg.jk0 (x:Prg):(x.cells=[])=False:=by rw [Prg.ac0]; simp
@[simp ↓] theorem Prg.head {l:List Prg}:(l.map Prg.cells=[]\/∃ e,(l.map Prg.cells)[0]?=some e/\e.length=3)=True:=head_map fun x=>x.cu0
abbrev Prg.V (x:Prg):V:=.agg x.cells
end Go.Am
end

section
namespace Go.Am
def bH0:Bs:=[118,101,114,115,105,111,110]
def el0:Bs:=[115,116,97,116,101]
def kwFn:Bs:=[102,110]
def kwOn:Bs:=[111,110]
def e30:Bs:=[108,101,116]
def dE0:Bs:=[115,101,116]
def e00:Bs:=[100,101,108]
def kwIf:Bs:=[105,102]
def co0:Bs:=[101,108,115,101]
def e20:Bs:=[102,111,114]
def kwTo:Bs:=[116,111]
def e40:Bs:=[114,101,116]
def hG0:Bs:=[116,114,117,101]
def eG0:Bs:=[102,97,108,115,101]
def gB0:Bs:=[105,110,116]
def ek0:Bs:=[98,111,111,108]
def dk0:Bs:=[116,101,120,116]
def qC0:List Bs:=[bH0,el0,kwFn,kwOn,e30,dE0,e00,kwIf,co0,e20,kwTo,e40,hG0,eG0,gB0,ek0,dk0]
def e90 (s:ByteArray):Bool:=qC0.contains (sB s)
abbrev PR (α:Type):=LxR (α × Nat)
def tk (ts:List Tok) (n:Nat):Tok:=ts.getD n default
def isT (ts:List Tok) (n:Nat) (kind:Int) (text:Bs):Bool:=decide ((tk ts n).kind=kind) && decide ((tk ts n).text=bS text)
def e70 {α:Type} (ts:List Tok) (n:Nat) (e:Int):LxR α:=.bad n e
def LxR.bind {α β:Type}:LxR α->(α->LxR β)->LxR β
 | .ok a,f=>f a
 | .bad a e,_=>.bad a e
def bh0 (ts:List Tok) (n:Nat) (text:Bs):LxR Nat:=if isT ts n 4 text then .ok (n + 1) else e70 ts n 31
def m00 (ts:List Tok) (n:Nat) (text:Bs):LxR Nat:=if isT ts n 1 text then .ok (n + 1) else e70 ts n 31
def dA0 (ts:List Tok) (n:Nat):PR Tok:=if (tk ts n).kind=1/\e90 (tk ts n).text=false then .ok (tk ts n,n + 1) else e70 ts n 31
def pInt (ts:List Tok) (n:Nat):PR Tok:=if (tk ts n).kind=2 then .ok (tk ts n,n + 1) else e70 ts n 31
def pKey (ts:List Tok) (n:Nat):PR Bs:=if isT ts n 1 gB0 then .ok (gB0,n + 1) else if isT ts n 1 dk0 then .ok (dk0,n + 1) else e70 ts n 31
def fI0 (ts:List Tok):Nat->Nat->PR Bs
 | 0,n=>e70 ts n 32
 | r + 1,n =>
  if isT ts n 1 ek0 then .ok (ek0,n + 1)
  else if isT ts n 4 [91] then (fI0 ts r (n + 1)).bind fun p=>(bh0 ts p.2 [93]).bind fun n'=>.ok ([91]++p.1++[93],n')
  else if isT ts n 4 [123] then (pKey ts (n + 1)).bind fun k=>(bh0 ts k.2 [58]).bind fun n1=>(fI0 ts r n1).bind fun p=>(bh0 ts p.2 [125]).bind fun n'=>.ok ([123]++k.1++[58]++p.1++[125],n')
  else pKey ts n
def ko0 (ts:List Tok) (n:Nat):PR Slo:=(dA0 ts n).bind fun t=>(bh0 ts t.2 [58]).bind fun n1=>(fI0 ts 4 n1).bind fun p=>.ok (⟨t.1.text,bS p.1,t.1.at_⟩,p.2)
def ci0:List (List Bs):=[[[124,124]],[[38,38]],[[61,61],[33,61],[60],[60,61],[62],[62,61]],[[43],[45]],[[42],[47],[37]]]
def pOps:List Bs:=ci0.flatten
def ej0 (l:Nat) (t:Tok):Bool:=decide (t.kind=4) && (ci0.getD l []).contains (sB t.text)
def km0 (ts:List Tok) (n:Nat) (d:Nat):LxR Unit:=if 24 < d then e70 ts n 32 else .ok ()
mutual
def b50 (ts:List Tok):Nat->Nat->Nat->PR Exq
 | 0,_,_=>.bad 0 (-1)
 | f + 1,d,n=>(km0 ts n d).bind fun _=>pBin ts f 0 d n
def pBin (ts:List Tok):Nat->Nat->Nat->Nat->PR Exq
 | 0,_,_,_=>.bad 0 (-1)
 | f + 1,l,d,n=>if l=5 then pUn ts f d n else (pBin ts f (l + 1) d n).bind fun p=>lq0 ts f l d p.1 p.2
def lq0 (ts:List Tok):Nat->Nat->Nat->Exq->Nat->PR Exq
 | 0,_,_,_,_=>.bad 0 (-1)
 | f + 1,l,d,out,n =>
  if ej0 l (tk ts n) then (pBin ts f (l + 1) d (n + 1)).bind fun p =>
   if l=2 then (if ej0 l (tk ts p.2) then e70 ts p.2 31 else .ok (.mk 15 ((pOps.idxOf (sB (tk ts n).text):Nat) + 1) 0 (bS []) 0 (bS []) [out,p.1] (tk ts n).at_,p.2))
   else lq0 ts f l d (.mk 15 ((pOps.idxOf (sB (tk ts n).text):Nat) + 1) 0 (bS []) 0 (bS []) [out,p.1] (tk ts n).at_) p.2
  else .ok (out,n)
def pUn (ts:List Tok):Nat->Nat->Nat->PR Exq
 | 0,_,_=>.bad 0 (-1)
 | f + 1,d,n =>
  if isT ts n 4 [45] then (km0 ts (n + 1) (d + 1)).bind fun _=>(pUn ts f (d + 1) (n + 1)).bind fun p=>.ok (.mk 13 0 0 (bS []) 0 (bS []) [p.1] (tk ts n).at_,p.2)
  else if isT ts n 4 [33] then (km0 ts (n + 1) (d + 1)).bind fun _=>(pUn ts f (d + 1) (n + 1)).bind fun p=>.ok (.mk 14 0 0 (bS []) 0 (bS []) [p.1] (tk ts n).at_,p.2)
  else (jO0 ts f d n).bind fun p=>lr0 ts f d p.1 p.2
def lr0 (ts:List Tok):Nat->Nat->Exq->Nat->PR Exq
 | 0,_,_,_=>.bad 0 (-1)
 | f + 1,d,out,n =>
  if isT ts n 4 [91] then (b50 ts f (d + 1) (n + 1)).bind fun p=>(bh0 ts p.2 [93]).bind fun n'=>lr0 ts f d (.mk 12 0 0 (bS []) 0 (bS []) [out,p.1] (tk ts n).at_) n'
  else .ok (out,n)
def jO0 (ts:List Tok):Nat->Nat->Nat->PR Exq
 | 0,_,_=>.bad 0 (-1)
 | f + 1,d,n =>
  if (tk ts n).kind=2 then .ok (.mk 1 0 (tk ts n).num (bS []) 0 (bS []) [] (tk ts n).at_,n + 1)
  else if (tk ts n).kind=3 then .ok (.mk 3 0 0 (tk ts n).text 0 (bS []) [] (tk ts n).at_,n + 1)
  else if isT ts n 1 hG0 then .ok (.mk 2 0 1 (bS []) 0 (bS []) [] (tk ts n).at_,n + 1)
  else if isT ts n 1 eG0 then .ok (.mk 2 0 0 (bS []) 0 (bS []) [] (tk ts n).at_,n + 1)
  else if isT ts n 4 [40] then (b50 ts f (d + 1) (n + 1)).bind fun p=>(bh0 ts p.2 [41]).bind fun n'=>.ok (p.1,n')
  else (dA0 ts n).bind fun t =>
   if isT ts (n + 1) 4 [40] then (if isT ts (n + 2) 4 [41] then .ok (.mk 7 0 0 t.1.text 0 (bS []) [] t.1.at_,n + 3) else (iP0 ts f (d + 1) [] (n + 2)).bind fun p=>.ok (.mk 7 0 0 t.1.text 0 (bS []) p.1 t.1.at_,p.2))
   else .ok (.mk 6 0 0 t.1.text 0 (bS []) [] t.1.at_,n + 1)
def iP0 (ts:List Tok):Nat->Nat->List Exq->Nat->PR (List Exq)
 | 0,_,_,_=>.bad 0 (-1)
 | f + 1,d,out,n=>(b50 ts f d n).bind fun p =>
  if isT ts p.2 4 [41] then .ok (out++[p.1],p.2 + 1) else (bh0 ts p.2 [44]).bind fun n'=>iP0 ts f d (out++[p.1]) n'
end
def stm0 (kind:Int) (name:ByteArray) (e:List Exq) (body els:List Stm) (at_:Int):Stm:=.mk kind name 0 false 0 e body els at_
mutual
def cf0 (ts:List Tok):Nat->Nat->Nat->PR (List Stm)
 | 0,_,_=>.bad 0 (-1)
 | f + 1,d,n=>(km0 ts n d).bind fun _=>(bh0 ts n [123]).bind fun n1=>lt0 ts f d [] n1
def lt0 (ts:List Tok):Nat->Nat->List Stm->Nat->PR (List Stm)
 | 0,_,_,_=>.bad 0 (-1)
 | f + 1,d,out,n=>if isT ts n 4 [125] then .ok (out,n + 1) else (pStm ts f d n).bind fun p=>lt0 ts f d (out++[p.1]) p.2
def pStm (ts:List Tok):Nat->Nat->Nat->PR Stm
 | 0,_,_=>.bad 0 (-1)
 | f + 1,d,n =>
  if isT ts n 1 e30 then (dA0 ts (n + 1)).bind fun t=>(bh0 ts t.2 [61]).bind fun n1=>(b50 ts f (d + 1) n1).bind fun p=>(bh0 ts p.2 [59]).bind fun n2=>.ok (stm0 1 t.1.text [p.1] [] [] (tk ts n).at_,n2)
  else if isT ts n 1 dE0 then (dA0 ts (n + 1)).bind fun t =>
   if isT ts t.2 4 [91] then (b50 ts f (d + 1) (t.2 + 1)).bind fun p=>(bh0 ts p.2 [93]).bind fun n1=>(bh0 ts n1 [61]).bind fun n2=>(b50 ts f (d + 1) n2).bind fun q=>(bh0 ts q.2 [59]).bind fun n3=>.ok (stm0 2 t.1.text [p.1,q.1] [] [] (tk ts n).at_,n3)
   else (bh0 ts t.2 [61]).bind fun n1=>(b50 ts f (d + 1) n1).bind fun p=>(bh0 ts p.2 [59]).bind fun n2=>.ok (stm0 2 t.1.text [p.1] [] [] (tk ts n).at_,n2)
  else if isT ts n 1 e00 then (dA0 ts (n + 1)).bind fun t=>(bh0 ts t.2 [91]).bind fun n1=>(b50 ts f (d + 1) n1).bind fun p=>(bh0 ts p.2 [93]).bind fun n2=>(bh0 ts n2 [59]).bind fun n3=>.ok (stm0 3 t.1.text [p.1] [] [] (tk ts n).at_,n3)
  else if isT ts n 1 kwIf then (b50 ts f (d + 1) (n + 1)).bind fun p=>(cf0 ts f (d + 1) p.2).bind fun b =>
   if isT ts b.2 1 co0 then (cf0 ts f (d + 1) (b.2 + 1)).bind fun c=>.ok (stm0 4 (bS []) [p.1] b.1 c.1 (tk ts n).at_,c.2) else .ok (stm0 4 (bS []) [p.1] b.1 [] (tk ts n).at_,b.2)
  else if isT ts n 1 e20 then (dA0 ts (n + 1)).bind fun t=>(m00 ts t.2 kwTo).bind fun n1=>(b50 ts f (d + 1) n1).bind fun p=>(cf0 ts f (d + 1) p.2).bind fun b=>.ok (stm0 5 t.1.text [p.1] b.1 [] (tk ts n).at_,b.2)
  else if isT ts n 1 e40 then (b50 ts f (d + 1) (n + 1)).bind fun p=>(bh0 ts p.2 [59]).bind fun n1=>.ok (stm0 6 (bS []) [p.1] [] [] (tk ts n).at_,n1)
  else e70 ts n 31
end
def c80 (ts:List Tok):Nat->List Slo->Nat->PR (List Slo)
 | 0,_,_=>.bad 0 (-1)
 | f + 1,out,n=>(ko0 ts n).bind fun p=>if isT ts p.2 4 [41] then .ok (out++[p.1],p.2 + 1) else (bh0 ts p.2 [44]).bind fun n'=>c80 ts f (out++[p.1]) n'
def pFun (ts:List Tok) (f:Nat) (on:Bool) (n:Nat):PR Fun :=
 (dA0 ts n).bind fun t=>(bh0 ts t.2 [40]).bind fun n1 =>
  ((if isT ts n1 4 [41] then .ok ([],n1 + 1) else c80 ts f [] n1:PR (List Slo))).bind fun ps=>(bh0 ts ps.2 [58]).bind fun n2=>(fI0 ts 4 n2).bind fun r=>(cf0 ts f 1 r.2).bind fun b =>
    .ok (⟨t.1.text,on,ps.1,bS r.1,[],b.1,t.1.at_⟩,b.2)
def l30 (ts:List Tok):Nat->Prg->Nat->PR Prg
 | 0,_,_=>.bad 0 (-1)
 | f + 1,p,n =>
  if (tk ts n).kind=5 then .ok (p,n)
  else if isT ts n 1 el0 then (ko0 ts (n + 1)).bind fun s=>(bh0 ts s.2 [59]).bind fun n1=>l30 ts f { p with bN0:=p.bN0++[s.1] } n1
  else if isT ts n 1 kwFn then (pFun ts f false (n + 1)).bind fun q=>l30 ts f { p with fns:=p.fns++[q.1] } q.2
  else if isT ts n 1 kwOn then (pFun ts f true (n + 1)).bind fun q=>l30 ts f { p with fns:=p.fns++[q.1] } q.2
  else e70 ts n 31
def ls0 (ts:List Tok) (f:Nat):PR Prg:=(m00 ts 0 bH0).bind fun n=>(pInt ts n).bind fun v=>(bh0 ts v.2 [59]).bind fun n1=>l30 ts f ⟨v.1.num,[],[]⟩ n1
def iS0 (s:Bs) (f:Nat):LxR Prg:=match hJ0 s with
 | .bad a e=>.bad a e
 | .ok ts=>match ls0 ts f with
  | .bad n e=>.bad (tk ts n.toNat).at_ e
  | .ok (p,_)=>.ok p
def LxR.live {α:Type}:LxR α->Prop
 | .bad _ e=>e ≠ -1
 | .ok _=>True
theorem LxR.aJ0 {α β:Type} {r:LxR α} {f:α->LxR β} (h:(r.bind f).live):r.live/\∀ a,r=.ok a->(f a).live:=by
 cases r with
 | ok a=>exact ⟨trivial,fun b e=>by injection e with e; subst e; exact h⟩
 | bad a e=>exact ⟨h,fun b e=>by cases e⟩
end Go.Am
end

section
namespace Go.Am
variable {P:Program} {n:Nat} {env:Env} {hp:Hp}
theorem J_ext {f:FuncId} {fn:Func} {e:Array Value->Sem Value} {args:List V} {v:V} {vs:Array Value} {x:Value} (hf:P.funcs[f]?=some fn) (hn:(fn.name == "runtime.NumGoroutine")=false) (hb:fn.body.isNone=true) (h1:(Extern.findNext fn).isNone=true)
  (h2:Extern.find fn=some e) (hargs:∀ H μ us,RL H μ args us->us=vs) (he:∀ w,(e vs).run P w=.ok x w) (hx:∀ H μ,R H μ v x):Ret P f args v:=by
 intro H μ us w h3 h4
 have:=hargs H μ us h3
 subst this
 have hn':¬ fn.name = "runtime.NumGoroutine":=by simpa using hn
 have h1':Extern.findNext fn=none:=by simpa using h1
 have hb':fn.body=none:=by simpa using hb
 have hrun:(callFunc f us).run P w=.ok (.value x) w:=by
  simp [callFunc,hf,hn',hb',h1',h2,he,mark]
  rfl
 unfold dG0
 rw [hrun]
 exact ⟨_,H,μ,rfl,⟨x,rfl,hx H μ⟩,(Nx.refl H μ (hpE 0 []) w).toNj,h4,Nat.le_refl _,fun j o hj=>by simp at hj⟩
theorem RL.two {H:Imm} {μ:Mu} {x y:Value} {us:Array Value} (h:RL H μ [.c x,.c y] us):us=#[x,y]:=by
 have h0:=(h.2 0 _ rfl).bS0
 have h1:=(h.2 1 _ rfl).bS0
 have hs:=h.1
 simp at hs
 apply Array.ext
 ·simp [hs]
 ·intro i h2 h3
  have:i=0\/i=1:=by simp at h3; omega
  rcases this with rfl | rfl
  ·simpa [Array.getD,h2] using h0
  ·simpa [Array.getD,h2] using h1
end Go.Am
end

section
namespace Go.Am
variable {P:Program} {n:Nat} {H:Imm} {μ:Mu} {env:Env} {hp:Hp} {a:Act} {w:World}
theorem fin_ret {m:Sz} {fn:Func} {rs:List IOp} {k:Nat} {Q:Res->Prop} {H0:Imm} {μ0:Mu} {hp0:Hp} {w0:World} (k6:gv0 P fn.results.toList=some rs) (hS:Sat m H μ env hp a w)
  (hN:Nj H0 μ0 hp0 w0 H μ hp w) (hext:∀ j,j < k->μ (.e j)=μ0 (.e j)) (h:retX k rs Q .ret env hp) :
  ∃ x,(results fn a.tmps).run P w=.ok x w/\∃ r H' μ',Q r/\JP H0 μ0 k hp0 w0 r (.returned x) H' μ' w:=by
 obtain ⟨outs,e0,q1⟩:=h
 obtain ⟨v,x,e1,e2,e3⟩:=lw0 (K:=fun v=>outV hp (esL 0 k++outs) v fun u obs=>Q (.ret u obs)) k6 hS q1
 refine ⟨x,e3,?_⟩
 obtain ⟨u,obs',H1,m1,m2,m3,m4,m5,m6⟩:=oL0 hS.wd e2 e0 e1
 refine ⟨_,H1,_,m1,⟨x,rfl,m2⟩,hN.trans m5,m4,by rw [m6]; simp [lc0],fun j o hj ho hg=>?_⟩
 simp only [muE]
 rw [List.getElem?_append_left (by rw [lc0]; exact hj),ov0 hj,Nat.zero_add]
 exact hext j hj
theorem qy0 {rs:List IOp} {k:Nat} {Q:Res->Prop} {H0:Imm} {μ0:Mu} {hp0:Hp} {w0:World} {v:V} {x:Value} (hr:R H μ v x) (hW:Wd H μ hp w)
  (hN:Nj H0 μ0 hp0 w0 H μ hp w) (hext:∀ j,j < k->μ (.e j)=μ0 (.e j)) (h:retX k rs Q (.pan v) env hp) :
  ∃ r H' μ',Q r/\JP H0 μ0 k hp0 w0 r (.panicked [{ v:=x,recovered:=false }]) H' μ' w:=by
 obtain ⟨u,obs',H1,m1,m2,m3,m4,m5,m6⟩:=oL0 hW hr (pp0 0 _) h
 refine ⟨_,H1,_,m1,⟨x,rfl,m2⟩,hN.trans m5,m4,by rw [m6,lc0],fun j o hj ho hg=>?_⟩
 simp only [muE]
 rw [ov0 hj,Nat.zero_add]
 exact hext j hj
theorem end_wp {fn:Func} {c:Code} {cd:Cd} {rs:List IOp} {k:Nat} {Q:Res->Prop} (k5:pe0 P n c cd) (k6:gv0 P fn.results.toList=some rs) (hS:Sat ⟨n,[]⟩ H μ env hp a w)
  (h:vc P cd env hp (wkQ (retX k rs Q))):c.wp P (bodyPost P fn fun e w'=>∃ r H' μ',Q r/\JP H μ k hp w r e H' μ' w') a w:=by
 refine wp_mono (vc_okA (n:=⟨n,[]⟩) k5 h H μ a w hS) fun e a' w' hpo=>?_
 obtain ⟨ex,env',hp',H',μ',q1,q2,q3,q4⟩:=hpo
 have hret:∀ {q:ex=.normal\/ex=.ret},∃ v,(results fn a'.tmps).run P w'=.ok v w'/\∃ r H'' μ'',Q r/\JP H μ k hp w r (.returned v) H'' μ'' w':=by
  intro q
  have q1':∃ E h,Wk E h env' hp'/\(retX k rs Q .ret E h):=by
   rcases q with rfl | rfl
   ·obtain ⟨E,h,r1,r2⟩:=q1; exact ⟨E,h,r1,r2⟩
   ·exact q1
  obtain ⟨E,hE,hwk,q1⟩:=q1'
  obtain ⟨H2,μ2,r1,r2⟩:=hwk ⟨n,[]⟩ H' μ' a' w' q4
  exact fin_ret k6 r1 (q3.trans r2).toNj (fun j _=>(q3.trans r2).ext j) q1
 cases ex with
 | normal=>cases e <;> simp only [Ex.ok] at q2; exact ⟨q4.defers,hret (q:=.inl rfl)⟩
 | ret=>cases e <;> simp only [Ex.ok] at q2; exact ⟨q4.defers,hret (q:=.inr rfl)⟩
 | exit i=>exact q1.elim
 | pan v =>
  cases e <;> simp only [Ex.ok] at q2
  obtain ⟨x,rfl,hx⟩:=q2
  exact ⟨q4.defers,qy0 (env:=env') (rs:=rs) hx q4.wd q3.toNj (fun j _=>q3.ext j) q1⟩
def recMode:FrameMode->FrameMode
 | .panicking ({ v,recovered:=false,goexit:=false } :: older)=>.panicking ({ v,recovered:=true } :: older)
 | m=>m
def PanOf (H:Imm) (pv:Option V) (u:FrameMode):Prop :=
 match pv with
 | none=>u=.returning
 | some p=>∃ x,u=.panicking [{ v:=x,recovered:=false }]/\R H Mu.bot p x
def e60 (rec:Bool) (u:FrameMode):FrameMode:=if rec then recMode u else u
def JD (P:Program) (rec:Bool) (f:FuncId) (args:List V) (obs:List Ob) (pv:Option V) (Q:Res->Prop):Prop :=
 ∀ H μ vs w u,RL H μ args vs->Wd H μ (hpE 0 obs) w->PanOf H pv u->(callFunc f vs).run P w=.ok (.enter f vs) w /\
  CallsD P f vs u w fun e u' w'=>u'=e60 rec u/\∃ r H' μ',Q r/\JP H μ obs.length (hpE 0 obs) w r e H' μ' w'
theorem m80 {args:List V} {vs:Array Value} (hlen:args.length<=n) (hargs:RL H μ args vs) (hW:Wd H μ hp w):Sat ⟨n,[]⟩ H μ (bF0 0 args) hp { tmps:=vs++Array.replicate (n - vs.size) undef,defers:=[] } w:=by
 have hsz:vs.size=args.length:=hargs.1
 refine ⟨rfl,by simp [hsz]; omega,fun s v hs=>?_,hW⟩
 obtain ⟨j,e,hj⟩:=fe0 hs
 rw [Nat.zero_add] at e; subst e
 have hlt:s < vs.size:=by rw [hsz]; exact (List.getElem?_eq_some_iff.1 hj).1
 have:=hargs.2 s v hj
 rw [Array.getD_eq_getD_getElem?] at this ⊢
 rw [Array.getElem?_append_left hlt]; exact this
theorem JD_of {f:FuncId} {cd:Cd} {rs:List IOp} {args:List V} {obs:List Ob} {pv:Option V} {Q:Res->Prop} (hf:FnIs P f n cd rs) (hlen:args.length<=n)
  (h:vc P cd (bF0 0 args) (hpE 0 obs) (wkQ (retX obs.length rs Q))):JD P false f args obs pv Q:=by
 intro H μ vs w u h1 h2 h3
 obtain ⟨fn,c,k1,k2,k3,k4,k5,k6⟩:=hf.ex
 have k2':¬ fn.name = "runtime.NumGoroutine":=by simpa using k2
 refine ⟨by simp [callFunc,k1,k2',k3],?_⟩
 have hS:=m80 (w:=w) (hp:=hpE 0 obs) hlen h1 h2
 rw [<- k4] at hS
 exact callsD_of_wp k1 k3 (end_wp (n:=n) k5 k6 (by rw [k4] at hS ⊢; exact hS) h)
def pvV:Option V->V
 | none=>.c .nilIface
 | some p=>p
theorem JR_of {f:FuncId} {s:Nat} {cd:Cd} {rs:List IOp} {args:List V} {obs:List Ob} {pv:Option V} {Q:Res->Prop} (hf:FnR P f n s cd rs) (hlen:args.length<=n) (hp:∀ p,pv=some p->p.pure=true)
  (h:vc P cd ((bF0 0 args).put (some s) (pvV pv)) (hpE 0 obs) (wkQ (retX obs.length rs Q))):JD P true f args obs pv Q:=by
 intro H μ vs w u h1 h2 h3
 obtain ⟨fn,c,id,o,cal,ops,k1,k2,k3,c1,c2,c3,c4,c5,c6,k4,k5,k6⟩:=hf.ex
 have k2':¬ fn.name = "runtime.NumGoroutine":=by simpa using k2
 refine ⟨by simp [callFunc,k1,k2',k3],?_⟩
 have hS:=m80 (w:=w) (hp:=hpE 0 obs) hlen h1 h2
 refine callsD_of_wpS k1 k3 fun c₀ cs hu=>wpS_seq (wpS_region ?_)
 rw [k4]
 generalize ha:({ tmps:=vs++Array.replicate (n - vs.size) undef,defers:=[] }:Act)=a at hS
 have hrun:(execOp a.eval o).run P w=.ok .recover w:=by
  obtain ⟨cc,ca,ct⟩:=cal
  simp only at c2 c3
  subst c2; subst c3
  simp [execOp,c1,resolve,invoke,builtin]
 rcases k5 with ⟨rfl,k5⟩ | ⟨o2,s2,cd0,rfl,e1,e2,e3,e4,k5,rfl⟩
 rotate_left
 ·have hwant:Region.wanted o (yielded #[o,o2] a.tmps)=true:=by simp [Region.wanted,c5]
  have h':vc P cd0 (((bF0 0 args).put (some s) (pvV pv)).put (some s2) (pvV pv)) (hpE 0 obs) (wkQ (retX obs.length rs Q)):=by
   simp only [vc,vcIs,vcI,vcOp,Go.Am.pv] at h
   obtain ⟨v,h1,h2⟩:=h
   have:v=pvV pv:=by simpa [Env.ev,Env.put] using h1.symm
   subst this
   exact h2
  have hgo:∀ x u',(∀ μ,R H μ (pvV pv) x)->u'=e60 true u->c.wpS P (bodyPostS P fn c₀ cs fun e u' w'=>u'=e60 true u/\∃ r H' μ',Q r/\JP H μ obs.length (hpE 0 obs) w r e H' μ' w') ((a.put o.dst x).put o2.dst ((a.put o.dst x).eval (.tmp s))) ({ c₀ with mode:=u' } :: cs) w:=by
   intro x u' hx hu'
   have hS1:Sat ⟨n,[]⟩ H μ ((bF0 0 args).put (some s) (pvV pv)) (hpE 0 obs) (a.put o.dst x) w:=by rw [c4]; exact hS.put (fun t e=>by injection e with e; subst e; exact c6) (hx μ)
   have hx2:R H μ (pvV pv) ((a.put o.dst x).eval (.tmp s)):=hS1.env s _ (by simp [Env.put])
   have hS2:Sat ⟨n,[]⟩ H μ (((bF0 0 args).put (some s) (pvV pv)).put (some s2) (pvV pv)) (hpE 0 obs) ((a.put o.dst x).put o2.dst ((a.put o.dst x).eval (.tmp s))) w:=by
    rw [e2]; exact hS1.put (fun t e=>by injection e with e; subst e; exact e4) hx2
   refine wpS_of_wp (wp_mono (end_wp (n:=n) (.of k5) k6 hS2 h') fun e a' w' hq=>?_)
   cases e with
   | normal=>exact ⟨hq.1,u',rfl,by obtain ⟨v,q1,q2⟩:=hq.2; exact ⟨v,q1,hu',q2⟩⟩
   | ret=>exact ⟨hq.1,u',rfl,by obtain ⟨v,q1,q2⟩:=hq.2; exact ⟨v,q1,hu',q2⟩⟩
   | panic ch=>exact ⟨hq.1,u',rfl,hu',hq.2⟩
   | outgrown=>exact ⟨e60 true u,rfl,hq⟩
   | exit i=>exact hq.elim
   | goto l=>exact hq.elim
  have step2:∀ (Q2:Exit->Act->List Frame->World->Prop) a' cs' w',Q2 .normal (a'.put o2.dst (a'.eval (.tmp s))) cs' w'->wpOpsS P #[o,o2] Q2 [1] a' cs' w':=by
   intro Q2 a' cs' w' hh
   have hw:Region.wanted o2 (yielded #[o,o2] a'.tmps)=true:=by simp [Region.wanted,e3]
   have hr:(execOp a'.eval o2).run P w'=.ok (.value (a'.eval (.tmp s))) w':=by simp [execOp,e1]
   simp only [wpOpsS,List.getElem?_toArray,List.getElem?_cons_succ,List.getElem?_cons_zero,hw,if_true,hr,Oper.upon]
   exact hh
  show wpOpsS P #[o,o2] _ [0,1] a (c₀ :: cs) w
  rw [wpOpsS]
  simp only [List.getElem?_toArray,List.getElem?_cons_zero,hwant,if_true,hrun]
  cases pv with
  | none =>
   have hu2:u=.returning:=h3
   subst hu2
   have:recoverD (c₀ :: cs)=none:=by simp [recoverD,hu]
   simp only [this]
   have:=hgo .nilIface .returning (fun μ=>.c _) rfl
   have hc:({ c₀ with mode:=.returning }:Frame)=c₀:=by rw [<- hu]
   rw [hc] at this
   exact step2 _ _ _ _ this
  | some p =>
   obtain ⟨x,hx1,hx2⟩:=h3
   subst hx1
   have:recoverD (c₀ :: cs)=some (x,{ c₀ with mode:=.panicking [{ v:=x,recovered:=true }] } :: cs):=by simp [recoverD,hu]
   simp only [this]
   exact step2 _ _ _ _ (hgo x _ (fun μ=>hx2.pure (hp p rfl) μ) rfl)
 have hwant:Region.wanted o (yielded #[o] a.tmps)=true:=by simp [Region.wanted,c5]
 have hgo:∀ x u',(∀ μ,R H μ (pvV pv) x)->u'=e60 true u->c.wpS P (bodyPostS P fn c₀ cs fun e u' w'=>u'=e60 true u/\∃ r H' μ',Q r/\JP H μ obs.length (hpE 0 obs) w r e H' μ' w') (a.put o.dst x) ({ c₀ with mode:=u' } :: cs) w:=by
  intro x u' hx hu'
  refine wpS_of_wp (wp_mono (end_wp (n:=n) (.of k5) k6 (a:=a.put o.dst x) (by rw [c4]; exact hS.put (fun t e=>by injection e with e; subst e; exact c6) (hx μ)) h) fun e a' w' hq=>?_)
  cases e with
  | normal=>exact ⟨hq.1,u',rfl,by obtain ⟨v,q1,q2⟩:=hq.2; exact ⟨v,q1,hu',q2⟩⟩
  | ret=>exact ⟨hq.1,u',rfl,by obtain ⟨v,q1,q2⟩:=hq.2; exact ⟨v,q1,hu',q2⟩⟩
  | panic ch=>exact ⟨hq.1,u',rfl,hu',hq.2⟩
  | outgrown=>exact ⟨e60 true u,rfl,hq⟩
  | exit i=>exact hq.elim
  | goto l=>exact hq.elim
 show wpOpsS P #[o] _ [0] a (c₀ :: cs) w
 simp only [wpOpsS,List.getElem?_toArray,List.getElem?_cons_zero,hwant,if_true,hrun]
 cases pv with
 | none =>
  have hu2:u=.returning:=h3
  subst hu2
  have:recoverD (c₀ :: cs)=none:=by simp [recoverD,hu]
  simp only [this]
  have:=hgo .nilIface .returning (fun μ=>.c _) rfl
  have hc:({ c₀ with mode:=.returning }:Frame)=c₀:=by rw [<- hu]
  rw [hc] at this
  exact this
 | some p =>
  obtain ⟨x,hx1,hx2⟩:=h3
  subst hx1
  have:recoverD (c₀ :: cs)=some (x,{ c₀ with mode:=.panicking [{ v:=x,recovered:=true }] } :: cs):=by simp [recoverD,hu]
  simp only [this]
  exact hgo x _ (fun μ=>hx2.pure (hp p rfl) μ) rfl
end Go.Am
end

section
namespace Go.Am
variable {P:Program} {n:Nat} {H:Imm} {μ:Mu} {env:Env} {hp:Hp} {a:Act} {w:World}
def kC0 (P:Program) (rec:Bool) (g:FuncId) (cs:List V) (pv:Option V) (env:Env) (hp:Hp) (K:Env->Hp->Prop):Prop :=
 ∃ ids:List Id,ids.Nodup/\V.seeL false ids (Hp.frz (.tup (V.bq0 ids (cs++boxes hp ids))) hp) cs fun us=>∃ args,V.fA0 (toE ids 0) us=some args /\
  eZ0 ids (Hp.frz (.tup (V.bq0 ids (cs++boxes hp ids))) hp) ids fun obs=>JD P rec g args obs pv fun r=>match r with
   | .ret v obs'=>∃ base,fB0 env (Hp.frz (.tup (V.bq0 ids (cs++boxes hp ids))) hp) ids base v obs' fun _ env' hp'=>K env' hp'
   | .pan _ _=>False
theorem q60 {m:Sz} {rec:Bool} {g:FuncId} {cs:List V} {pv:Option V} {K:Env->Hp->Prop} {vals:Array Value} {u:FrameMode} (hS:Sat m H μ env hp a w) (hcs:RL H μ cs vals) (hu:PanOf H pv u)
  (h:kC0 P rec g cs pv env hp K):(callFunc g vals).run P w=.ok (.enter g vals) w /\
   CallsD P g vals u w fun e u' w'=>u'=e60 rec u/\∃ v,e=.returned v/\∃ env' hp' H' μ',K env' hp'/\Sat m H' μ' env' hp' a w'/\Nx H μ hp w H' μ' hp' w':=by
 obtain ⟨ids,hnd,h⟩:=h
 obtain ⟨H1,hle,hS1,hx1⟩:=hS.frz (.tup (V.bq0 ids (cs++boxes hp ids)))
 obtain ⟨us,⟨args,hm,hh⟩,hlen,hr⟩:=iY0 hS1.wd (cs:=cs) (vals:=vals) (off:=0) (by rw [hcs.1]; omega)
  (fun j v hj=>by rw [Nat.zero_add]; exact (hcs.2 j v hj).le hle) h
 obtain ⟨obs,hJ,hol,hob⟩:=mf0 hS1.wd hh
 obtain ⟨hWc,hown⟩:=Handed.wd (ids:=ids) (obs:=obs) ⟨by omega,hob⟩ hS1.wd hnd
 obtain ⟨m1,m2⟩:=dO0 hm
 have hRL:RL H1 (muE ids μ) args vals:=⟨by rw [hcs.1,m1,hlen],fun j u hj=>by
  obtain ⟨v,q1,q2⟩:=m2 j u hj
  have:=hr j v q1
  rw [Nat.zero_add] at this
  exact this.aQ0 (fun i i' h=>oJ0 h) q2⟩
 have hu1:PanOf H1 pv u:=by
  cases pv with
  | none=>exact hu
  | some p=>obtain ⟨x,e1,e2⟩:=hu; exact ⟨x,e1,e2.le hle⟩
 obtain ⟨r1,r2⟩:=hJ H1 (muE ids μ) vals w u hRL hWc hu1
 refine ⟨r1,r2.mono fun e u' w' ⟨hu',r,H',μ',hq,hjp⟩=>⟨hu',?_⟩⟩
 cases r with
 | ret v obs' =>
  obtain ⟨⟨x,rfl,hx⟩,q2,q3,q4,q5⟩:=hjp
  obtain ⟨base,hq⟩:=hq
  rw [hol] at q4 q5
  obtain ⟨v',env',hp',μ2,p1,p2,p3,p4,p5⟩:=Sat.join hS1 hnd hown q2 q3 q4 q5 hx hq
  exact ⟨x,rfl,env',hp',H',μ2,p1,p3,hx1.trans p4⟩
 | pan v obs'=>exact hq.elim
def WkE (k:Nat) (E:Env) (h:Hp) (cs':List V) (env:Env) (hp:Hp) (cs:List V):Prop :=
 ∀ (n:Sz) H μ a w (vals:Array Value),Sat n H μ env hp a w->RL H μ cs vals->∃ μ',Sat n H μ' E h a w/\Nj H μ hp w H μ' h w/\(∀ j,j < k->μ' (.e j)=μ (.e j))/\RL H μ' cs' vals
theorem WkE.refl {k:Nat} {cs:List V}:WkE k env hp cs env hp cs:=fun n H μ a w vals hS hv=>⟨μ,hS,(Nx.refl H μ hp w).toNj,fun _ _=>rfl,hv⟩
theorem WkE.trans {k:Nat} {E1 E2:Env} {h1 h2:Hp} {cs cs1 cs2:List V} (g1:WkE k E1 h1 cs1 env hp cs) (g2:WkE k E2 h2 cs2 E1 h1 cs1):WkE k E2 h2 cs2 env hp cs:=fun n H μ a w vals hS hv=>by
 obtain ⟨μ1,q1,q2,q3,q4⟩:=g1 n H μ a w vals hS hv
 obtain ⟨μ2,r1,r2,r3,r4⟩:=g2 n H μ1 a w vals q1 q4
 exact ⟨μ2,r1,q2.trans r2,fun j hj=>(r3 j hj).trans (q3 j hj),r4⟩
theorem WkE.ren {k:Nat} {E:Env} {h:Hp} {cs cs':List V} (i:Id) (j:Nat) (hk:k<=j) (hij:i ≠ .e j) (hE:∀ p ∈ E,bc0 env p.1 fun v=>mapK (renF i (.e j)) v (·=p.2))
  (hh:∀ p ∈ h,p.1 ≠ i/\objK hp (bR0 i (.e j) p.1) fun o=>nB0 (renF i (.e j)) o (·=p.2)) (hc:c70 (renF i (.e j)) cs (·=cs')):WkE k E h cs' env hp cs:=fun n H μ a w vals hS hv=>by
 let μ':Mu:=fun x=>if x=.e j then μ i else μ x
 have hμ:∀ x x',renF i (.e j) x=some x'->μ' x'=μ x:=by
  intro x x' hx
  unfold renF at hx
  by_cases h1:x=i
  ·subst h1; rw [if_pos rfl] at hx; injection hx with hx; subst hx; simp [μ']
  ·rw [if_neg h1] at hx
   by_cases h2:x=.e j
   ·rw [if_pos h2] at hx; cases hx
   ·rw [if_neg h2] at hx; injection hx with hx; subst hx; simp [μ',h2]
 have hun:∀ x,x ≠ i->renF i (.e j) (bR0 i (.e j) x)=some x:=by
  intro x hx
  unfold renF bR0
  by_cases h1:x=.e j
  ·subst h1; simp
  ·simp [h1,hx]
 have hob:∀ x o,h.lookup x=some o->x ≠ i/\∃ o',hp.lookup (bR0 i (.e j) x)=some o'/\o'.aQ0 (renF i (.e j))=some o:=by
  intro x o hl
  obtain ⟨h1,h2⟩:=hh (x,o) (bB0 hl)
  rw [h90] at h2
  obtain ⟨o',h3,q,h4,rfl⟩:=h2
  exact ⟨h1,o',h3,h4⟩
 have hW:=hS.wd
 refine ⟨μ',⟨hS.defers,hS.size,fun s v hs=>?_,⟨fun x o hl=>?_,fun x y ox oy bx by' hx hox hy hoy hbx hby heq=>?_,hW.imm,hW.glo⟩⟩,⟨Imm.le_refl H,rfl,rfl,rfl,Nat.le_refl _,fun _ _ _=>rfl,fun b hO hb=>?_,fr0⟩,fun q hq=>?_,?_⟩
 ·have h1:=hE (s,v) (bB0 hs)
  rw [eM0] at h1
  obtain ⟨u,h2,q,h3,rfl⟩:=h1
  exact R.aQ0 hμ (hS.env s u h2) h3
 ·obtain ⟨h1,o',h2,h3⟩:=hob x o hl
  exact ObOk.aQ0 hμ (hμ _ _ (hun x h1)) (hW.ob _ o' h2) h3
 ·obtain ⟨h1,o1,h2,h3⟩:=hob x ox hx
  obtain ⟨k1,o2,k2,k3⟩:=hob y oy hy
  have e1:=hμ _ _ (hun x h1)
  have e2:=hμ _ _ (hun y k1)
  have:=hW.inj _ _ o1 o2 bx by' h2 (by rw [<- Ob.cL0 h3]; exact hox) k2 (by rw [<- Ob.cL0 k3]; exact hoy) (by rw [<- e1]; exact hbx) (by rw [<- e2]; exact hby) heq
  have r1:=hun x h1
  rw [this,hun y k1] at r1
  injection r1 with r1; exact r1.symm
 ·obtain ⟨x,o,blk,h1,h2,h3,h4⟩:=hO
  obtain ⟨q1,o1,q2,q3⟩:=hob x o h1
  exact ⟨_,o1,blk,q2,by rw [<- Ob.cL0 q3]; exact h2,by rw [<- hμ _ _ (hun x q1)]; exact h3,h4⟩
 ·have:q ≠ j:=by omega
  simp [μ',this]
 ·obtain ⟨us,hc,rfl⟩:=hc
  obtain ⟨m1,m2⟩:=dO0 hc
  refine ⟨by rw [hv.1,m1],fun q v hq=>?_⟩
  obtain ⟨u,q1,q2⟩:=m2 q v hq
  exact R.aQ0 hμ (hv.2 q u q1) q2
def vcF (P:Program) (k:Nat):FCd->Env->Hp->Qs->(FuncId->List V->Qs)->Prop
 | .seq c f,env,hp,Q,QD=>vc P c env hp (l80 (fun e h=>vcF P k f e h Q QD) Q)
 | .ite v f g,env,hp,Q,QD=>∃ t,Env.ev env v=some (.c (.bool t))/\(t=true->vcF P k f env hp Q QD)/\(t=false->vcF P k g env hp Q QD)
 | .plain c,env,hp,Q,_=>vc P c env hp Q
 | .dfr is t args c,env,hp,Q,QD=>vcIs P env hp is (fun e h=>∃ g caps vs,Env.ev e t=some (.fn g caps)/\args.mapM (Env.ev e)=some vs/\∃ E h' cs',WkE k E h' cs' e h (vs++caps)/\V.kz0 cs'=true/\vc P c E h' (QD g cs')) fun v h=>Q (.pan v) [] h
def PostF (n k:Nat) (H:Imm) (μ:Mu) (hp:Hp) (w:World) (Q:Qs) (QD:FuncId->List V->Qs):Exit->Act->World->Prop:=fun e a' w' =>
 Post ⟨n,[]⟩ H μ hp w Q e a' w'\/∃ g cv dargs cs ex env' hp' H' μ',(RL H' μ' cs (dargs++cv)/\V.kz0 cs=true)/\QD g cs ex env' hp'/\ex.ok H' μ' e/\Nj H μ hp w H' μ' hp' w'/\(∀ j,j < k->μ' (.e j)=μ (.e j)) /\
  Sat ⟨n,[{ target:=.fn (.func g) cv,args:=dargs }]⟩ H' μ' env' hp' a' w'
theorem PostF.trans {k:Nat} {H1:Imm} {μ1:Mu} {hp1:Hp} {w1:World} {Q:Qs} {QD:FuncId->List V->Qs} {e:Exit} {a':Act} {w':World} (h:Nx H μ hp w H1 μ1 hp1 w1) (q:PostF n k H1 μ1 hp1 w1 Q QD e a' w'):PostF n k H μ hp w Q QD e a' w':=by
 rcases q with q | ⟨g,cv,dargs,cs,ex,env',hp',H',μ',q1,q2,q3,q4,q5,q6⟩
 ·exact .inl (Post.trans h q)
 ·exact .inr ⟨g,cv,dargs,cs,ex,env',hp',H',μ',q1,q2,q3,h.toNj.trans q4,fun j hj=>(q5 j hj).trans (h.ext j),q6⟩
theorem q30 {nz:Sz} {rest:List Nat} {ops:Array Oper} {Kp:V->Hp->Prop} {K:Env->Hp->Prop}:∀ (m j:Nat) (is:List I) (env:Env) (hp:Hp),is.length=m ->
  (∀ (k:Nat) (i:I),is[k]?=some i->∃ o,ops[j + k]?=some o/\fC0 P nz ops o=some i)->vcIs P env hp is K Kp ->
  ∀ H μ a w (Q:Exit->Act->World->Prop),Sat nz H μ env hp a w ->
   (∀ v x hp' H' μ' a' w',Kp v hp'->R H' μ' v x->Nx H μ hp w H' μ' hp' w'->Wd H' μ' hp' w'->a'.defers=nz.ds->a'.tmps.size=nz.n->Q (.panic [{ v:=x,recovered:=false }]) a' w') ->
   (∀ env' hp' H' μ' a' w',K env' hp'->Sat nz H' μ' env' hp' a' w'->Nx H μ hp w H' μ' hp' w'->wpOps P ops Q rest a' w') ->
   wpOps P ops Q (List.range' j m++rest) a w:=by
 intro m
 induction m with
 | zero =>
  intro j is env hp hl hget h H μ a w Q hS hQp hQ
  have:is=[]:=List.eq_nil_of_length_eq_zero hl
  subst this
  exact hQ env hp H μ a w h hS (Nx.refl H μ hp w)
 | succ m ih =>
  intro j is env hp hl hget h H μ a w Q hS hQp hQ
  cases is with
  | nil=>simp at hl
  | cons i is =>
   simp only [vcIs] at h
   obtain ⟨o,ho,hc⟩:=hget 0 i rfl
   rw [Nat.add_zero] at ho
   rw [List.range'_succ,List.cons_append,wpOps_cons]
   refine wpOp_mono (fun a' w' ⟨env',hp',H',μ',h1,h2,h3,hk⟩=>?_) (rE0 ho hc h H μ a w Q hS fun v x hp' H' μ' w' k1 k2 k3 k4=>hQp v x hp' H' μ' a w' k1 k2 k3 k4 hS.defers hS.size)
   exact ih (j + 1) is env' hp' (by simpa using hl) (fun k i' hk=>by
    have:=hget (k + 1) i' (by simpa using hk)
    rwa [show j + (k + 1)=j + 1 + k by omega] at this) h1 H' μ' a' w' Q h2
    (fun v x hp'' H'' μ'' a'' w'' k1 k2 k3 k4 k5 k6=>hQp v x hp'' H'' μ'' a'' w'' k1 k2 (h3.trans k3) k4 k5 k6)
    (fun env'' hp'' H'' μ'' a'' w'' k1 k2 k3=>hQ env'' hp'' H'' μ'' a'' w'' k1 k2 (h3.trans k3))
theorem pF0 {ops:Array Oper} {t:Operand} {args:List Operand} (h:oD0 ops=some (t,args)):∃ o at1,ops.toList=ops.toList.dropLast++[o]/\o.op=.defer ⟨.value t,args.toArray,at1⟩/\o.dst=none/\o.guard=none:=by
 unfold oD0 at h
 split at h
 ·rename_i o ho
  split at h
  ·rename_i t' args' at1 h1 h2 h3
   simp only [Option.some.injEq,Prod.mk.injEq] at h
   obtain ⟨rfl,rfl⟩:=h
   exact ⟨o,at1,by obtain ⟨ys,e⟩:=List.getLast?_eq_some_iff.1 ho; rw [e]; simp,by simpa using h1,h2,h3⟩
  ·cases h
 ·cases h
abbrev Cont:=(Exit->Act->World->Prop)->Act->World->Prop
def rH0 (W:Cont):Prop:=∀ Q Q' a w,W Q a w->(∀ e a w,Q e a w->Q' e a w)->W Q' a w
def ContP (P:Program) (n:Nat) (y:Option Cd) (W:Cont):Prop:=∀ c,y=some c->∀ (ds:List Deferred) (env:Env) (hp:Hp) (Q:Qs),vc P c env hp Q->∀ H μ a w,Sat ⟨n,ds⟩ H μ env hp a w->W (Post ⟨n,ds⟩ H μ hp w Q) a w
def qk0 (P:Program) (n k:Nat) (f:Option FCd) (W:Cont):Prop:=∀ c,f=some c->∀ (env:Env) (hp:Hp) (Q:Qs) (QD:FuncId->List V->Qs),vcF P k c env hp Q QD->∀ H μ a w,Sat ⟨n,[]⟩ H μ env hp a w->W (PostF n k H μ hp w Q QD) a w
def Cont.of (P:Program) (c:Code) (W:Cont):Cont:=fun Q a w=>c.wp P (Exit.then (W Q) Q) a w
theorem Cont.of_mono {c:Code} {W:Cont} (hm:rH0 W):rH0 (Cont.of P c W):=fun Q Q' a w h hq=>wp_mono h fun e a' w' h1=>by
 cases e with
 | normal=>exact hm _ _ _ _ h1 hq
 | exit id=>exact hq _ _ _ h1
 | goto l=>exact hq _ _ _ h1
 | ret=>exact hq _ _ _ h1
 | panic ch=>exact hq _ _ _ h1
 | outgrown=>exact hq _ _ _ h1
theorem eF0 {k:Nat} {W:Cont} {x:Code} {cx:Cd} {f:FCd} {fo:Option FCd} (hfo:fo=some f) (hm:rH0 W) (hF:qk0 P n k fo W) (hx:cp0 P n x=some cx):qk0 P n k (some (.seq cx f)) (Cont.of P x W):=by
 intro c hc env hp Q QD h H μ a w hS
 injection hc with hc; subst hc
 refine wp_mono (vc_ok (n:=⟨n,[]⟩) hx h H μ a w hS) fun e a' w' hpo=>?_
 obtain ⟨ex,env',hp',H',μ',q1,q2,q3,q4⟩:=hpo
 cases ex with
 | normal =>
  have:e=.normal:=(hL0 q2).2 rfl
  subst this
  exact hm _ _ _ _ (hF f hfo _ _ _ _ q1 H' μ' a' w' q4) fun e a'' w'' hh=>hh.trans q3
 | exit i=>cases e <;> simp only [Ex.ok] at q2; exact .inl ⟨.exit i,env',hp',H',μ',q1,q2,q3,q4⟩
 | ret=>cases e <;> simp only [Ex.ok] at q2; exact .inl ⟨.ret,env',hp',H',μ',q1,trivial,q3,q4⟩
 | pan v=>cases e <;> simp only [Ex.ok] at q2; exact .inl ⟨.pan v,env',hp',H',μ',q1,q2,q3,q4⟩
theorem fpush_dfr {k:Nat} {W:Cont} {id:Nat} {ops:Array Oper} {t:Operand} {args:List Operand} {is:List I} {cy:Cd} {y:Option Cd} (hy:y=some cy) (hm:rH0 W) (hP:ContP P n y W) (hl:oD0 ops=some (t,args))
  (hi:nq0 P n ops ops.toList.dropLast=some is):qk0 P n k (some (.dfr is t args cy)) (Cont.of P (.region id ops false) W):=by
 intro c hc env hp Q QD h H μ a w hS
 injection hc with hc; subst hc
 obtain ⟨o,at1,l1,l2,l3,l4⟩:=pF0 hl
 obtain ⟨r1,r2⟩:=ht0 (n:=⟨n,[]⟩) hi
 have hsz:ops.size=is.length + 1:=by
  have:=congrArg List.length l1
  rw [r1]; simpa using this
 have hlast:ops[is.length]?=some o:=by
  have:ops.toList[is.length]?=some o:=by rw [l1,r1]; simp
  simpa using this
 refine wp_region ?_
 rw [List.range_eq_range',hsz,List.range'_1_concat,Nat.zero_add]
 refine q30 (nz:=⟨n,[]⟩) is.length 0 is env hp rfl (fun k i hk=>?_) h H μ a w _ hS (fun v x hp' H' μ' a' w' k1 k2 k3 k4 k5 k6=>?_) (fun env' hp' H' μ' a' w' k1 k2 k3=>?_)
 ·have hk':k < ops.toList.dropLast.length:=by rw [<- r1]; exact (List.getElem?_eq_some_iff.1 hk).1
  obtain ⟨i',h1,h2⟩:=r2 k ops.toList.dropLast[k] (List.getElem?_eq_getElem hk')
  rw [hk] at h1; injection h1 with h1; subst h1
  refine ⟨_,?_,h2⟩
  rw [Nat.zero_add]
  have:ops.toList[k]?=some ops.toList.dropLast[k]:=by
   conv=>lhs; rw [l1]
   rw [List.getElem?_append_left hk',List.getElem?_eq_getElem hk']
  simp
 ·exact .inl ⟨.pan v,[],hp',H',μ',k1,⟨x,rfl,k2⟩,k3,Sat.bare k5 k6 k4⟩
 ·obtain ⟨g,caps,vs,g1,g2,E,h',cs',g3,g4,g5⟩:=k1
  obtain ⟨cv,ef,hcv⟩:=mz0 (ch0 k2 g1)
  have hargs:=lp0 (rho k2) args vs g2
  have hall:=hargs.append hcv
  obtain ⟨μ2,s1,s2,s3,s4⟩:=g3 _ H' μ' a' w' _ k2 hall
  rw [wpOps_cons]
  unfold wpOp
  simp only [hlast]
  have hw:Region.wanted o (yielded ops a'.tmps)=true:=by simp [Region.wanted,l4]
  rw [if_pos hw]
  refine .inl ?_
  unfold Oper.wp
  have hrun:(execOp a'.eval o).run P w'=.ok (.defer { target:=.fn (.func g) cv,args:=args.toArray.map a'.eval }) w':=by
   simp [execOp,l2,resolve,ef,Deferred.ofValue]
  rw [hrun]
  simp only [Oper.upon,l3]
  show W _ _ _
  have hd:a'.defers=[]:=k2.defers
  have hS2:Sat ⟨n,[{ target:=.fn (.func g) cv,args:=args.toArray.map a'.eval }]⟩ H' μ2 E h' { a' with defers:={ target:=.fn (.func g) cv,args:=args.toArray.map a'.eval } :: a'.defers } w' :=
   ⟨by simp [hd],s1.size,s1.env,s1.wd⟩
  refine hm _ _ _ _ (hP _ hy _ _ _ _ g5 H' μ2 _ w' hS2) fun e a'' w'' hpo=>?_
  obtain ⟨ex,env2,hp2,H2,μ3,q1,q2,q3,q4⟩:=hpo
  refine .inr ⟨g,cv,_,cs',ex,env2,hp2,H2,μ3,⟨?_,g4⟩,q1,q2,(k3.toNj.trans s2).trans q3.toNj,fun j hj=>(q3.ext j).trans ((s3 j hj).trans (k3.ext j)),q4⟩
  refine ⟨s4.1,fun q v hq=>(s4.2 q v hq).mono q3.imm fun i hi=>?_⟩
  obtain ⟨j,rfl⟩:=V.hd0 g4 (V.gO0 hq hi)
  exact q3.ext j
theorem fpush_ok {k:Nat}:∀ (c:Code) {W:Cont} {y:Option Cd} {f:Option FCd},rH0 W->ContP P n y W->qk0 P n k f W->qk0 P n k (kL0 P n c y f) (Cont.of P c W):=by
 intro c
 induction c with
 | seq a b iha ihb =>
  intro W y f hm hP hF
  have hb:qk0 P n k (kL0 P n b y f) (Cont.of P b W):=ihb hm hP hF
  have hPb:ContP P n (seqO (cp0 P n b) y) (Cont.of P b W):=by
   intro c hc ds env hp Q h H μ a w hS
   cases h1:cp0 P n b with
   | none=>rw [h1] at hc; simp [seqO] at hc
   | some cb =>
    rw [h1] at hc
    cases y with
    | none=>simp [seqO] at hc
    | some cy =>
    simp only [seqO,Option.some.injEq] at hc; subst hc
    refine wp_mono (vc_ok (n:=⟨n,ds⟩) h1 h H μ a w hS) fun e a' w' hpo=>?_
    obtain ⟨ex,env',hp',H',μ',q1,q2,q3,q4⟩:=hpo
    cases ex with
    | normal =>
     have:e=.normal:=(hL0 q2).2 rfl
     subst this
     exact hm _ _ _ _ (hP cy rfl ds _ _ _ q1 H' μ' a' w' q4) fun e a'' w'' hh=>hh.trans q3
    | exit i=>cases e <;> simp only [Ex.ok] at q2; exact ⟨.exit i,env',hp',H',μ',q1,q2,q3,q4⟩
    | ret=>cases e <;> simp only [Ex.ok] at q2; exact ⟨.ret,env',hp',H',μ',q1,trivial,q3,q4⟩
    | pan v=>cases e <;> simp only [Ex.ok] at q2; exact ⟨.pan v,env',hp',H',μ',q1,q2,q3,q4⟩
  have:=iha (Cont.of_mono hm) hPb hb
  intro c hc env hp Q QD h H μ a' w hS
  have h1:=this c hc env hp Q QD h H μ a' w hS
  refine wp_seq (wp_mono h1 fun e a'' w'' h2=>?_)
  cases e with
  | normal=>exact h2
  | exit id=>exact h2
  | goto l=>exact h2
  | ret=>exact h2
  | panic ch=>exact h2
  | outgrown=>exact h2
 | region id ops d =>
  intro W y f hm hP hF
  cases d with
  | false =>
   intro c hc
   unfold kL0 at hc
   split at hc
   ·rename_i t args hl
    split at hc
    ·rename_i is cy hi
     injection hc with hc; subst hc
     exact fpush_dfr rfl hm hP hl hi _ rfl
    ·cases hc
   ·split at hc
    ·rename_i cx g hx
     injection hc with hc; subst hc
     exact eF0 rfl hm hF hx _ rfl
    ·cases hc
  | true =>
   intro c hc
   unfold kL0 at hc
   split at hc
   ·rename_i cx g hx
    injection hc with hc; subst hc
    exact eF0 rfl hm hF hx _ rfl
   ·cases hc
 | cond v a b iha ihb =>
  intro W y f hm hP hF c hc
  unfold kL0 at hc
  split at hc
  ·rename_i cx g hx
   injection hc with hc; subst hc
   exact eF0 rfl hm hF hx _ rfl
  ·split at hc
   ·rename_i g h hg hh
    injection hc with hc; subst hc
    intro env hp Q QD hv H μ a' w hS
    obtain ⟨t,h1,h2,h3⟩:=hv
    have ev:=(ch0 hS h1).bS0
    refine wp_cond ev ?_
    cases t with
    | true=>exact iha hm hP hF g hg env hp Q QD (h2 rfl) H μ a' w hS
    | false=>exact ihb hm hP hF h hh env hp Q QD (h3 rfl) H μ a' w hS
   ·cases hc
 | block id x _ =>
  intro W y f hm hP hF c hc
  unfold kL0 at hc
  split at hc
  ·rename_i cx g hx
   injection hc with hc; subst hc
   exact eF0 rfl hm hF hx _ rfl
  ·cases hc
 | loop x _ =>
  intro W y f hm hP hF c hc
  unfold kL0 at hc
  split at hc
  ·rename_i cx g hx
   injection hc with hc; subst hc
   exact eF0 rfl hm hF hx _ rfl
  ·cases hc
 | skip =>
  intro W y f hm hP hF c hc env hp Q QD h H μ a w hS
  exact wp_skip (hF c hc env hp Q QD h H μ a w hS)
 | ret =>
  intro W y f hm hP hF c hc
  unfold kL0 at hc
  split at hc
  ·injection hc with hc; subst hc
   exact eF0 rfl hm hF (by rfl) _ rfl
  ·cases hc
 | _=>intro W y f hm hP hF c hc; simp [kL0] at hc
theorem vcF_ok {k:Nat} {c:Code} {fc:FCd} (hc:fcomp P n c=some fc) {env:Env} {hp:Hp} {Q:Qs} {QD:FuncId->List V->Qs} (h:vcF P k fc env hp Q QD) :
  ∀ H μ a w,Sat ⟨n,[]⟩ H μ env hp a w->c.wp P (PostF n k H μ hp w Q QD) a w:=by
 intro H μ a w hS
 have hm:rH0 (fun Q a w=>Q .normal a w):=fun Q Q' a w h hq=>hq _ _ _ h
 have hP:ContP P n (some .skip) (fun Q a w=>Q .normal a w):=fun c hc ds env hp Q h H μ a w hS=>by
  injection hc with hc; subst hc
  exact ⟨.normal,env,hp,H,μ,h,trivial,Nx.refl H μ hp w,hS⟩
 have hF:qk0 P n k (some (.plain .skip)) (fun Q a w=>Q .normal a w):=fun c hc env hp Q QD h H μ a w hS=>by
  injection hc with hc; subst hc
  exact .inl ⟨.normal,env,hp,H,μ,h,trivial,Nx.refl H μ hp w,hS⟩
 refine wp_mono (fpush_ok c hm hP hF fc hc env hp Q QD h H μ a w hS) fun e a' w' h2=>?_
 cases e with
 | normal=>exact h2
 | exit id=>exact h2
 | goto l=>exact h2
 | ret=>exact h2
 | panic ch=>exact h2
 | outgrown=>exact h2
end Go.Am
end

section
namespace Go.Am
variable {P:Program} {n:Nat} {H:Imm} {μ:Mu} {env:Env} {hp:Hp} {a:Act} {w:World}
def dEnd (P:Program) (k:Nat) (rs:List IOp) (Q:Res->Prop) (rec:Bool) (g:FuncId) (cs:List V):Qs
 | .normal,env,hp | .ret,env,hp=>∃ E h,Wk E h env hp/\kC0 P rec g cs none E h fun env' hp'=>∃ E' h',Wk E' h' env' hp'/\retX k rs Q .ret E' h'
 | .pan p,env,hp=>p.pure=true/\∃ E h,Wk E h env hp/\kC0 P rec g cs (some p) E h fun env' hp'=>match rec with
  | true=>∃ E' h',Wk E' h' env' hp'/\retX k rs Q .ret E' h'
  | false=>retX k rs Q (.pan p) env' hp'
 | .exit _,_,_=>False
theorem ll0 {m:Sz} {fn:Func} {rs:List IOp} {k:Nat} {Q:Res->Prop} {H0:Imm} {μ0:Mu} {hp0:Hp} {w0:World} (k6:gv0 P fn.results.toList=some rs) (hS:Sat m H μ env hp a w)
  (hN:Nj H0 μ0 hp0 w0 H μ hp w) (hext:∀ j,j < k->μ (.e j)=μ0 (.e j)) (h:∃ E' h',Wk E' h' env hp/\retX k rs Q .ret E' h') :
  Leaves P fn a.tmps (fun e w'=>∃ r H' μ',Q r/\JP H0 μ0 k hp0 w0 r e H' μ' w') [] .returning w:=by
 obtain ⟨E,h',hwk,h⟩:=h
 obtain ⟨H2,μ2,r1,r2⟩:=hwk m H μ a w hS
 obtain ⟨x,x1,x2⟩:=fin_ret k6 r1 (hN.trans r2.toNj) (fun j hj=>(r2.ext j).trans (hext j hj)) h
 exact ⟨x,x1,x2⟩
theorem J_dfr {f:FuncId} {fc:FCd} {rs:List IOp} {args:List V} {obs:List Ob} {Q:Res->Prop} (rec:Bool) (hf:FnD P f n fc rs) (hlen:args.length<=n)
  (h:vcF P obs.length fc (bF0 0 args) (hpE 0 obs) (wkQ (retX obs.length rs Q)) (dEnd P obs.length rs Q rec)):J P f args obs Q:=by
 intro H μ vs w h1 h2
 obtain ⟨fn,c,k1,k2,k3,k4,k5,k6⟩:=hf.ex
 have hrun:(callFunc f vs).run P w=.ok (.enter f vs) w:=by
  have k2':¬ fn.name = "runtime.NumGoroutine":=by simpa using k2
  simp [callFunc,k1,k2',k3]
 unfold dG0
 rw [hrun]
 refine calls_of_wp_defers k1 k3 ?_
 rw [k4]
 have hS:=m80 (w:=w) (hp:=hpE 0 obs) hlen h1 h2
 refine wp_mono (vcF_ok (k:=obs.length) k5 h H μ _ w hS) fun e a' w' hpo=>?_
 rcases hpo with hpo | hpo
 ·obtain ⟨ex,env',hp',H',μ',q1,q2,q3,q4⟩:=hpo
  have hd:a'.defers=[]:=q4.defers
  have hret:ex=.normal\/ex=.ret->Leaves P fn a'.tmps (fun e w'=>∃ r H' μ',Q r/\JP H μ obs.length (hpE 0 obs) w r e H' μ' w') [] .returning w':=by
   intro q
   refine ll0 k6 q4 q3.toNj (fun j _=>q3.ext j) ?_
   rcases q with rfl | rfl
   ·obtain ⟨E,h,r1,r2⟩:=q1; exact ⟨E,h,r1,r2⟩
   ·exact q1
  cases ex with
  | normal=>cases e <;> simp only [Ex.ok] at q2; simp only [bodyPostD,hd]; exact hret (.inl rfl)
  | ret=>cases e <;> simp only [Ex.ok] at q2; simp only [bodyPostD,hd]; exact hret (.inr rfl)
  | exit i=>exact q1.elim
  | pan v =>
   cases e <;> simp only [Ex.ok] at q2
   obtain ⟨x,rfl,hx⟩:=q2
   simp only [bodyPostD,hd]
   exact qy0 (env:=env') (rs:=rs) hx q4.wd q3.toNj (fun j _=>q3.ext j) q1
 ·obtain ⟨g,cv,dargs,cs,ex,env',hp',H',μ',⟨q0,qe⟩,q1,q2,q3,q5,q4⟩:=hpo
  have hd:a'.defers=[{ target:=.fn (.func g) cv,args:=dargs }]:=q4.defers
  have wk:∀ {E:Env} {h:Hp},Wk E h env' hp'->∃ H2 μ2,Sat ⟨n,[{ target:=.fn (.func g) cv,args:=dargs }]⟩ H2 μ2 E h a' w'/\Nx H' μ' hp' w' H2 μ2 h w'/\RL H2 μ2 cs (dargs++cv):=by
   intro E h hwk
   obtain ⟨H2,μ2,r1,r2⟩:=hwk _ H' μ' a' w' q4
   refine ⟨H2,μ2,r1,r2,q0.1,fun q v hq=>(q0.2 q v hq).mono r2.imm fun i hi=>?_⟩
   obtain ⟨j,rfl⟩:=V.hd0 qe (V.gO0 hq hi)
   exact r2.ext j
  have hinv:(callFunc g (dargs++cv)).run P w'=.ok (.enter g (dargs++cv)) w'->(invoke (.fn (.func g) cv) dargs).run P w'=.ok (.enter g (dargs++cv)) w':=fun h=>h
  have hret:(∃ E h,Wk E h env' hp'/\kC0 P rec g cs none E h fun env' hp'=>∃ E' h',Wk E' h' env' hp'/\retX obs.length rs Q .ret E' h') ->
    Leaves P fn a'.tmps (fun e w'=>∃ r H' μ',Q r/\JP H μ obs.length (hpE 0 obs) w r e H' μ' w') a'.defers .returning w':=by
   rintro ⟨E,h,r1,r2⟩
   obtain ⟨H5,μ2,s1,s2,s3⟩:=wk r1
   obtain ⟨t1,t2⟩:=q60 (pv:=none) s1 s3 (u:=.returning) rfl r2
   rw [hd]
   refine leaves_cons (by simp) (hinv t1) (t2.mono fun e u' w'' hq=>?_)
   obtain ⟨hu,v,rfl,env2,hp2,H2,μ3,p1,p2,p3⟩:=hq
   have:settle u'=.returning:=by rw [hu]; cases rec <;> rfl
   simp only [this]
   exact ll0 k6 p2 ((q3.trans s2.toNj).trans p3.toNj) (fun j hj=>(p3.ext j).trans ((s2.ext j).trans (q5 j hj))) p1
  cases ex with
  | normal=>cases e <;> simp only [Ex.ok] at q2; exact hret q1
  | ret=>cases e <;> simp only [Ex.ok] at q2; exact hret q1
  | exit i=>exact q1.elim
  | pan p =>
   cases e <;> simp only [Ex.ok] at q2
   obtain ⟨x,rfl,hx⟩:=q2
   obtain ⟨hp,E,h,r1,r2⟩:=q1
   obtain ⟨H5,μ2,s1,s2,s3⟩:=wk r1
   have hx0:R H5 Mu.bot p x:=(hx.pure hp Mu.bot).le s2.imm
   obtain ⟨t1,t2⟩:=q60 (pv:=some p) s1 s3 (u:=.panicking [{ v:=x,recovered:=false }]) ⟨x,rfl,hx0⟩ r2
   simp only [bodyPostD,hd]
   refine leaves_cons (by simp) (hinv t1) (t2.mono fun e u' w'' hq=>?_)
   obtain ⟨hu,v,rfl,env2,hp2,H2,μ3,p1,p2,p3⟩:=hq
   have hN:=(q3.trans s2.toNj).trans p3.toNj
   have hE:∀ j,j < obs.length->μ3 (.e j)=μ (.e j):=fun j hj=>(p3.ext j).trans ((s2.ext j).trans (q5 j hj))
   cases rec with
   | true =>
    have:settle u'=.returning:=by rw [hu]; rfl
    simp only [this]
    exact ll0 k6 p2 hN hE p1
   | false =>
    have:settle u'=.panicking [{ v:=x,recovered:=false }]:=by rw [hu]; rfl
    simp only [this]
    exact qy0 (env:=env2) (rs:=rs) ((hx0.pure hp μ3).le p3.imm) p2.wd hN hE p1
end Go.Am
end

section
namespace Go.Am
variable {P:Program} {env:Env} {hp:Hp}
@[simp] theorem intO_tmp {t:Nat} {d:Int} {K:Int->Prop}:intO (some (Env.ev env (.tmp t))) d K=bc0 env t (hold fun v=>intK v (hold fun _ n=>K n)):=by
 simp only [eM0,hold]
 show intO (some (env.lookup t)) d K=_
 cases h:env.lookup t with
 | none=>simp [intO]
 | some v=>cases v with
  | c x=>cases x <;> simp [intO,intK]
  | _=>simp [intO,intK]
@[simp] theorem intO_const {k:IntKind} {i d:Int} {K:Int->Prop}:intO (some (Env.ev env (.const (.int k i)))) d K=K i:=_root_.id rfl
theorem aO0 {xs:List (List V)} {k:Nat} {e:List V} {K:List V->Prop} (h:xs[k]?=some e):fW0 xs k K=K e:=by simp [fW0,h]
theorem endP {k:Nat} {rs:List IOp} {Q:Res->Prop} {v:V} (h:outV hp (esL 0 k) v (hold fun u obs=>Q (.pan u obs))):wkQ (retX k rs Q) (.pan v) env hp:=h
@[simp high] theorem nth_lit0 {α:Type} {x0:α} {l:List α}:(x0 :: l)[0]?=some x0:=rfl
@[simp high] theorem nth_lit1 {α:Type} {x0 x1:α} {l:List α}:(x0 :: x1 :: l)[1]?=some x1:=rfl
@[simp high] theorem nth_lit2 {α:Type} {x0 x1 x2:α} {l:List α}:(x0 :: x1 :: x2 :: l)[2]?=some x2:=rfl
@[simp high] theorem nth_lit3 {α:Type} {x0 x1 x2 x3:α} {l:List α}:(x0 :: x1 :: x2 :: x3 :: l)[3]?=some x3:=rfl
@[simp high] theorem nth_lit4 {α:Type} {x0 x1 x2 x3 x4:α} {l:List α}:(x0 :: x1 :: x2 :: x3 :: x4 :: l)[4]?=some x4:=rfl
@[simp high] theorem nth_lit5 {α:Type} {x0 x1 x2 x3 x4 x5:α} {l:List α}:(x0 :: x1 :: x2 :: x3 :: x4 :: x5 :: l)[5]?=some x5:=rfl
@[simp high] theorem nth_lit6 {α:Type} {x0 x1 x2 x3 x4 x5 x6:α} {l:List α}:(x0 :: x1 :: x2 :: x3 :: x4 :: x5 :: x6 :: l)[6]?=some x6:=rfl
@[simp high] theorem nth_lit7 {α:Type} {x0 x1 x2 x3 x4 x5 x6 x7:α} {l:List α}:(x0 :: x1 :: x2 :: x3 :: x4 :: x5 :: x6 :: x7 :: l)[7]?=some x7:=rfl
@[simp high] theorem nth_lit8 {α:Type} {x0 x1 x2 x3 x4 x5 x6 x7 x8:α} {l:List α}:(x0 :: x1 :: x2 :: x3 :: x4 :: x5 :: x6 :: x7 :: x8 :: l)[8]?=some x8:=rfl
@[simp high] theorem nth_lit9 {α:Type} {x0 x1 x2 x3 x4 x5 x6 x7 x8 x9:α} {l:List α}:(x0 :: x1 :: x2 :: x3 :: x4 :: x5 :: x6 :: x7 :: x8 :: x9 :: l)[9]?=some x9:=rfl
end Go.Am
end
