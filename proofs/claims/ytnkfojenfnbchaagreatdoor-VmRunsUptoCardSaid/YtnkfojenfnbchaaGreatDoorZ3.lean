/- VmRuns of the given program, part 3 of 6 of the proof: for all arguments within the bound the law answers true, and each argument reads behind the call as before. Conditions: those of the given card. -/
import Derived.Test.YtnkfojenfnbchaaGreatDoorZ2
import Derived.Test.YtnkfojenfnbchaaGreatDoorProg
import Derived.KernelRfl
import Derived.Lib.Bytealg
set_option linter.all false
set_option linter.unusedVariables false
set_option linter.unusedSimpArgs false
set_option linter.unnecessarySimpa false
section
set_option maxRecDepth 100000
namespace Go.Am
open Go.Proofs
noncomputable abbrev prog : Program := Tryz.prog
@[simp] abbrev sR (l : List I) (c : Cd) : Cd := .seq (.reg l) c
@[simp] abbrev cO (t : Nat) (a b : Cd) : Cd := .cond (.tmp t) a b
@[simp] abbrev cC (d f : Nat) (l : List Operand) : I := ⟨some d, none, .call (.func f) l⟩
@[simp] abbrev pT (d c x : Nat) : I := ⟨some d, none, .pick (.tmp c) (.const (.bool true)) (.tmp x)⟩
@[simp] abbrev pF (d c x : Nat) : I := ⟨some d, none, .pick (.tmp c) (.tmp x) (.const (.bool false))⟩
@[simp] abbrev bX (d n s : Nat) : I := ⟨some d, none, .box n (.tmp s)⟩
@[simp] abbrev zI : V := .c (.int .i64 0)
@[simp] abbrev zS : V := .c (.string ⟨⟨[]⟩⟩)
@[simp] abbrev xL (d p : Nat) (b : Bool) (s : Nat) : I := ⟨some d, some (p, b), .len (.tmp s)⟩
@[simp] abbrev xA (d p : Nat) (b : Bool) (n s : Nat) : I := ⟨some d, some (p, b), .lda n (.tmp s)⟩
@[simp] abbrev tT (n : Nat) : Operand := .tmp n
@[simp] abbrev iC (k : Int) : Operand := .const (.int .i64 k)
@[simp] abbrev bC (b : Bool) : Operand := .const (.bool b)
@[simp] abbrev oO (d : Nat) (x : IOp) : I := ⟨some d, none, x⟩
@[simp] abbrev nO (x : IOp) : I := ⟨none, none, x⟩
@[simp] abbrev gO (d p : Nat) (b : Bool) (x : IOp) : I := ⟨some d, some (p, b), x⟩
@[simp] abbrev mM (d s : Nat) : I := ⟨some d, none, .mv (.tmp s)⟩
@[simp] abbrev mC (d : Nat) (k : Int) : I := ⟨some d, none, .mv (.const (.int .i64 k))⟩
@[simp] abbrev mB (d : Nat) (b : Bool) : I := ⟨some d, none, .mv (.const (.bool b))⟩
@[simp] abbrev lD (d s : Nat) : I := ⟨some d, none, .ld (.tmp s)⟩
@[simp] abbrev lN (d s : Nat) : I := ⟨some d, none, .len (.tmp s)⟩
@[simp] abbrev lS (d s : Nat) : I := ⟨some d, none, .lenS (.tmp s)⟩
@[simp] abbrev nC (d s : Nat) : I := ⟨some d, none, .nchk (.tmp s)⟩
@[simp] abbrev lA (d n s : Nat) : I := ⟨some d, none, .lda n (.tmp s)⟩
@[simp] abbrev fA (d k s : Nat) : I := ⟨some d, none, .fa k (.tmp s)⟩
@[simp] abbrev bB (d : Nat) (o : BinOp) (a b : Nat) : I := ⟨some d, none, .bin o (.tmp a) (.tmp b)⟩
@[simp] abbrev bI (d : Nat) (o : BinOp) (a : Nat) (k : Int) : I := ⟨some d, none, .bin o (.tmp a) (.const (.int .i64 k))⟩
@[simp] abbrev iA (d n a b : Nat) : I := ⟨some d, none, .ia n (.tmp a) (.tmp b)⟩
@[simp] abbrev sT (n a b : Nat) : I := ⟨none, none, .st n (.tmp a) (.tmp b)⟩
@[simp] abbrev eX (d s k : Nat) : I := ⟨some d, none, .ext (.tmp s) k⟩
@[simp] abbrev xM (d p : Nat) (b : Bool) (s : Nat) : I := ⟨some d, some (p, b), .mv (.tmp s)⟩
@[simp] abbrev xD (d p : Nat) (b : Bool) (s : Nat) : I := ⟨some d, some (p, b), .ld (.tmp s)⟩
@[simp] abbrev xF (d p : Nat) (b : Bool) (k s : Nat) : I := ⟨some d, some (p, b), .fa k (.tmp s)⟩
@[simp] abbrev xI (d p : Nat) (b : Bool) (o : BinOp) (a : Nat) (k : Int) : I := ⟨some d, some (p, b), .bin o (.tmp a) (.const (.int .i64 k))⟩
@[simp] abbrev ac0 : Nat := 31
abbrev fc0 : Nat := 3
abbrev fS0 : Nat := 7
abbrev fQ0 : Nat := 8
abbrev oO0 : Nat := 9
abbrev fV0 : Nat := 10
abbrev ph0 : Nat := 11
abbrev eB0 : Nat := 12
abbrev eP0 : Nat := 13
abbrev dj0 : Nat := 14
abbrev ea0 : Nat := 15
abbrev cf0 : Nat := 16
abbrev dY0 : Nat := 17
abbrev fR0 : Nat := 19
abbrev fP0 : Nat := 20
abbrev jw0 : Nat := 21
abbrev oP0 : Nat := 22
abbrev fd0 : Nat := 23
abbrev fW0 : Nat := 24
abbrev kr0 : Nat := 25
abbrev sg0 : Nat := 26
abbrev hH0 : Nat := 27
abbrev ln0 : Nat := 28
abbrev cS0 : Nat := 29
abbrev eo0 : Nat := 30
abbrev fg0 : Nat := 31
abbrev dz0 : Nat := 32
abbrev eO0 : Nat := 33
abbrev aP0 : Nat := 34
abbrev ir0 : Nat := 35
abbrev mT0 : Nat := 36
abbrev mO0 : Nat := 37
abbrev l00 : Nat := 38
abbrev ju0 : Nat := 39
abbrev lo0 : Nat := 40
abbrev mQ0 : Nat := 41
abbrev jx0 : Nat := 42
abbrev aL0 : Nat := 43
abbrev bd0 : Nat := 44
abbrev gQ0 : Nat := 45
abbrev gR0 : Nat := 46
abbrev gS0 : Nat := 47
abbrev ey0 : Nat := 48
abbrev gP0 : Nat := 49
abbrev c40 : Nat := 50
abbrev bn0 : Nat := 51
abbrev aj0 : Nat := 52
abbrev aV0 : Nat := 53
abbrev fj0 : Nat := 54
abbrev l30 : Nat := 55
abbrev ks0 : Nat := 56
abbrev is0 : Nat := 57
abbrev fk0 : Nat := 58
abbrev it0 : Nat := 59
abbrev iu0 : Nat := 60
abbrev iv0 : Nat := 61
abbrev iw0 : Nat := 62
abbrev ix0 : Nat := 63
abbrev cJ0 : Nat := 64
abbrev dk0 : Nat := 65
abbrev eC0 : Nat := 66
abbrev ct0 : Nat := 67
abbrev fZ0 : Nat := 68
abbrev dc0 : Nat := 69
abbrev f00 : Nat := 70
abbrev jy0 : Nat := 71
abbrev fX0 : Nat := 72
abbrev b80 : Nat := 73
abbrev gM0 : Nat := 74
abbrev ff0 : Nat := 75
abbrev cp0 : Nat := 76
abbrev ez0 : Nat := 77
abbrev gO0 : Nat := 78
abbrev ew0 : Nat := 79
abbrev eA0 : Nat := 80
abbrev cI0 : Nat := 81
abbrev d00 : Nat := 82
abbrev ex0 : Nat := 83
abbrev ev0 : Nat := 84
abbrev lZ0 : Nat := 85
abbrev gK0 : Nat := 86
abbrev gT0 : Nat := 87
abbrev aJ0 : Nat := 88
abbrev mP0 : Nat := 89
abbrev l60 : Nat := 90
abbrev mS0 : Nat := 91
abbrev l20 : Nat := 92
abbrev l40 : Nat := 93
abbrev bc0 : Nat := 94
abbrev dA0 : Nat := 95
abbrev kt0 : Nat := 96
abbrev dB0 : Nat := 97
abbrev dC0 : Nat := 98
abbrev hF0 : Nat := 99
abbrev dD0 : Nat := 100
abbrev ku0 : Nat := 101
abbrev dE0 : Nat := 102
abbrev hE0 : Nat := 103
abbrev dF0 : Nat := 104
abbrev iY0 : Nat := 105
abbrev dG0 : Nat := 106
abbrev fY0 : Nat := 107
abbrev dH0 : Nat := 108
abbrev hG0 : Nat := 109
abbrev dI0 : Nat := 110
abbrev hD0 : Nat := 111
abbrev gL0 : Nat := 112
abbrev fe0 : Nat := 113
abbrev h60 : Nat := 114
abbrev bF0 : Nat := 115
abbrev jv0 : Nat := 116
abbrev fU0 : Nat := 117
abbrev fT0 : Nat := 118
abbrev io0 : Nat := 119
abbrev ca0 : Nat := 120
abbrev hC0 : Nat := 121
abbrev ip0 : Nat := 122
abbrev mR0 : Nat := 124
abbrev l50 : Nat := 125
abbrev iq0 : Nat := 126
abbrev a90 : Nat := 127
abbrev a60 : Nat := 128
abbrev cE0 : Nat := 129
abbrev gN0 : Nat := 130
abbrev dZ0 : Nat := 131
abbrev h50 : Nat := 132
abbrev dy0 : Nat := 133
abbrev co0 : Nat := 134
abbrev fi0 : Nat := 135
abbrev kv0 : Nat := 136
abbrev fh0 : Nat := 137
abbrev eU0 : Nat := 139
abbrev cb0 : Nat := 140
abbrev cX0 : Nat := 141
abbrev cc0 : Nat := 147
abbrev cD0 : Nat := 148
abbrev ce0 : Nat := 155
abbrev dq0 : Nat := 161
def eH0 : Cd := sR [bX 2 2 0, bX 3 4 1, mB 4 false] (.seq (sR [cC 11 7 [], oO 12 (.un .not (tT 11))] (cO 12 (sR [mB 4 false] .ret) .skip)) (.seq (sR [lA 13 2 2, fA 14 0 3, lD 15 14, fA 16 1 3, lD 17 16, oO 18 (.mkrow 22 1 [tT 15, tT 17]), cC 19 8 [tT 13, tT 18]] (cO 19 (sR [mB 4 true] .ret) .skip)) (.seq (.seq (.dreg ⟨[(oO 20 (.mkrow 31 4 []), []), (fA 21 0 3, []), (lD 22 21, [1]), (oO 23 (.app 31 4 56 (tT 20) (tT 22)), [0, 1, 2]), (fA 24 1 3, []), (lD 25 24, [4]), (oO 26 (.app 31 4 56 (tT 23) (tT 25)), [0, 1, 2, 3, 4, 5]), (lN 27 26, [0, 1, 2, 3, 4, 5, 6]), (mC 28 0, [])], [], [1, 4, 8]⟩) (.blk 0 (.loop (sR [bB 29 .lss 28 27] (.seq (cO 29 .skip (.exit 0)) (.seq (.blk 1 (sR [iA 30 4 26 28, lA 31 4 30, oO 6 (.alloc [zI, zI, zS, .nil]), sT 4 6 31] (.seq (.dreg ⟨[(lA 32 4 6, []), (cC 33 9 [tT 32], [0]), (lA 34 4 6, [])], [cC 35 10 [tT 34], oO 36 (.binb true (tT 33) (tT 35))], []⟩) (cO 36 (sR [mB 4 false] .ret) .skip)))) (.reg [bI 37 .add 28 1, mM 28 37]))))))) (sR [lA 39 2 2, fA 40 0 3, lD 41 40, fA 42 2 3, lD 43 42, fA 44 1 3, lD 45 44, fA 46 3 3, lD 47 46, oO 48 (.mn (tT 47) (iC 200)), cC 49 11 [tT 39, tT 41, tT 43, tT 45, tT 48], mM 38 49, eX 50 38 0, eX 51 38 1, oO 8 (.alloc [zI, zI, zS, .nil, zI, zI]), mM 7 50, sT 6 8 51] (sR [lA 53 2 2, fA 54 0 3, lD 55 54, fA 56 2 3, lD 57 56, fA 58 1 3, lD 59 58, fA 60 3 3, lD 61 60, oO 62 (.mn (tT 61) (iC 200)), cC 63 12 [tT 53, tT 55, tT 57, tT 59, tT 62], mM 52 63, eX 64 52 0, eX 65 52 1, oO 10 (.alloc [zI, zI, zS, .nil, zI, zI]), mM 9 64, sT 6 10 65] (sR [mM 66 7, mM 67 9, cC 68 13 [tT 66, tT 67], mM 69 68, xA 70 69 true 6 8, xA 71 69 true 6 10, gO 72 69 true (.call (.func 14) [tT 70, tT 71]), pF 73 69 72, mM 4 73] .ret))))))
theorem eQ0 : FnIs prog fc0 74 eH0 [(.mv (.tmp 4))] := .of (fn := Tryz.f3) Tryz.func3 (by kernel_rfl)
def e60 : Cd := sR [mB 0 false] (sR [oO 8 (.build [zI, zI] [(0, 1, iC 1)]), oO 9 (.build [zI, zI] [(0, 1, iC 10)]), oO 10 (.mkrow 48 2 [tT 8, tT 9]), cC 11 19 [tT 10], cC 12 11 [tT 11, .const (.slice none 0 0), iC 0, .const (.slice none 0 0), iC 9], mM 7 12, eX 13 7 0, eX 14 7 1, oO 2 (.alloc [zI, zI, zS, .nil, zI, zI]), mM 1 13, sT 6 2 14] (sR [oO 16 (.build [zI, zI] [(0, 1, iC 7)]), oO 17 (.mkrow 48 2 [tT 16]), cC 18 19 [tT 17], cC 19 11 [tT 18, .const (.slice none 0 0), iC 0, .const (.slice none 0 0), iC 9], mM 15 19, eX 20 15 0, eX 21 15 1, oO 4 (.alloc [zI, zI, zS, .nil, zI, zI]), mM 3 20, sT 6 4 21] (sR [oO 23 (.build [zI, zI] [(0, 1, iC 1)]), oO 24 (.build [zI, zI] [(0, 1, iC 14)]), oO 25 (.build [zI, zI] [(0, 1, iC 10)]), oO 26 (.mkrow 48 2 [tT 23, tT 24, tT 25]), cC 27 19 [tT 26], cC 28 11 [tT 27, .const (.slice none 0 0), iC 0, .const (.slice none 0 0), iC 9], mM 22 28, eX 29 22 0, eX 30 22 1, oO 6 (.alloc [zI, zI, zS, .nil, zI, zI]), mM 5 29, sT 6 6 30] (sR [fA 31 4 2, lD 32 31, bI 33 .eql 32 0, mM 34 33, xF 35 34 true 0 2, xF 36 34 true 1 35, xD 37 34 true 36, xI 38 34 true .eql 37 7, pF 39 34 38, mM 40 39, xF 41 40 true 5 2, xD 42 40 true 41, xI 43 40 true .eql 42 9, pF 44 40 43, mM 45 44, xF 46 45 true 4 4, xD 47 45 true 46, xI 48 45 true .eql 47 54, pF 49 45 48, mM 50 49, xF 51 50 true 5 4, xD 52 50 true 51, xI 53 50 true .eql 52 0, pF 54 50 53, mM 55 54, xF 56 55 true 4 6, xD 57 55 true 56, xI 58 55 true .eql 57 40, pF 59 55 58, mM 60 59, xF 61 60 true 5 6, xD 62 60 true 61, xI 63 60 true .eql 62 9, pF 64 60 63, mM 0 64] .ret))))
theorem jZ0 : FnIs prog fS0 65 e60 [(.mv (.tmp 0))] := .of (fn := Tryz.f7) Tryz.func7 (by kernel_rfl)
def e40 : Cd := sR [bX 2 2 0, mB 4 false] (sR [oO 5 (.alloc [zI]), nO (.st 1 (tT 5) (iC 0))] (.seq (sR [fA 12 1 2, lD 13 12, lN 14 13, mC 15 0] (.blk 0 (.loop (sR [bB 16 .lss 15 14] (.seq (cO 16 .skip (.exit 0)) (.seq (.blk 1 (sR [iA 17 5 13 15, lA 18 5 17, oO 7 (.alloc [zI, zI, zI, zI, .nil]), sT 5 7 18] (sR [lD 19 5, fA 20 4 7, lD 21 20, lN 22 21, oO 23 (.bin .add (iC 1) (tT 22)), bB 24 .add 19 23, sT 1 5 24] (sR [lD 25 5, bI 26 .gtr 25 1024] (cO 26 (sR [mB 4 true] .ret) .skip))))) (.reg [bI 27 .add 15 1, mM 15 27]))))))) (.seq (sR [fA 28 0 2, lD 29 28, oO 30 (.mkrow 22 1 [tT 29]), mM 31 1, oO 32 (.app 22 1 24 (tT 30) (tT 31)), lN 33 32, mC 34 0] (.blk 2 (.loop (sR [bB 35 .lss 34 33] (.seq (cO 35 .skip (.exit 2)) (.seq (.blk 3 (sR [iA 36 1 32 34, lD 37 36, mM 9 37] (sR [mM 38 9, lN 39 38, mC 40 0] (.blk 4 (.loop (sR [bB 41 .lss 40 39] (.seq (cO 41 .skip (.exit 4)) (.seq (.blk 5 (sR [iA 42 4 38 40, lA 43 4 42, oO 11 (.alloc [zI, zI, zS, .nil]), sT 4 11 43] (sR [lA 44 4 11, cC 45 20 [tT 44, tT 5]] (cO 45 (sR [mB 4 true] .ret) .skip)))) (.reg [bI 46 .add 40 1, mM 40 46]))))))))) (.reg [bI 47 .add 34 1, mM 34 47]))))))) (sR [mB 4 false] .ret))))
theorem jX0 : FnIs prog fQ0 48 e40 [(.mv (.tmp 4))] := .of (fn := Tryz.f8) Tryz.func8 (by kernel_rfl)
def mD0 : Cd := sR [bX 1 4 0, mB 2 false] (sR [lA 3 4 1, cC 4 21 [tT 3], bI 5 .leq 4 16384, mM 6 5, xA 7 6 true 4 1, gO 8 6 true (.call (.func 22) [tT 7]), pF 9 6 8, mM 2 9] .ret)
theorem rw0 : FnIs prog oO0 10 mD0 [(.mv (.tmp 2))] := .of (fn := Tryz.f9) Tryz.func9 (by kernel_rfl)
def e90 : Cd := sR [bX 1 4 0, mB 2 false] (sR [lA 3 4 1, cC 4 23 [tT 3], bI 5 .leq 4 16384, mM 6 5, xA 7 6 true 4 1, gO 8 6 true (.call (.func 24) [tT 7]), pF 9 6 8, mM 2 9] .ret)
theorem j20 : FnIs prog fV0 10 e90 [(.mv (.tmp 2))] := .of (fn := Tryz.f10) Tryz.func10 (by kernel_rfl)
def mU0 : FCd := .seq (.reg [oO 5 (.box 2 (tT 0)), oO 6 (.box 1 (tT 1)), oO 10 (.alloc [.nil]), oO 11 (.alloc [.c (.int .i64 0), .c (.int .i64 0), .c (.string ⟨⟨[]⟩⟩), .nil, .c (.int .i64 0), .c (.int .i64 0)])]) (.seq (.reg [mM 14 4, oO 15 (.mx (tT 14) (iC 0)), oO 16 (.mn (tT 15) (iC 4096)), mM 4 16]) (.seq (.seq (.reg [lA 17 2 5, lD 18 6, lN 19 18, oO 20 (.call (.func 25) [tT 17, tT 19]), bI 21 .neq 20 0, mM 22 21, xM 23 22 false 2, xI 24 22 false .lss 23 0, oO 25 (.pick (tT 22) (bC true) (tT 24)), mM 26 25, xM 27 26 false 2, xF 28 26 false 1 5, xD 29 26 false 28, gO 30 26 false (.len (tT 29)), gO 31 26 false (.bin .geq (tT 27) (tT 30)), oO 32 (.pick (tT 26) (bC true) (tT 31)), mM 33 32, xM 34 33 false 3, gO 35 33 false (.len (tT 34)), xF 36 33 false 1 5, xD 37 33 false 36, xM 38 33 false 2, gO 39 33 false (.ia 5 (tT 37) (tT 38)), xF 40 33 false 0 39, xD 41 33 false 40, gO 42 33 false (.bin .neq (tT 35) (tT 41)), oO 43 (.pick (tT 33) (bC true) (tT 42)), mM 44 43, xD 45 44 false 6, gO 46 44 false (.call (.func 26) [tT 45]), gO 47 44 false (.un .not (tT 46)), oO 48 (.pick (tT 44) (bC true) (tT 47)), mM 49 48, xM 50 49 false 3, gO 51 49 false (.call (.func 26) [tT 50]), gO 52 49 false (.un .not (tT 51)), oO 53 (.pick (tT 49) (bC true) (tT 52))]) (.cond (tT 53) (.seq (.reg [oO 54 (.build [.c (.int .i64 0), .c (.int .i64 0), .c (.string ⟨⟨[]⟩⟩), .nil, .c (.int .i64 0), .c (.int .i64 0)] [(4, 1, iC 40)]), nO (.st 1 (tT 10) (.const (.slice none 0 0))), sT 6 11 54]) .ret) .skip)) (.seq (.dreg ⟨[(lA 55 2 5, []), (lD 56 6, []), (oO 57 (.call (.func 27) [tT 56]), [1]), (mM 58 4, []), (oO 59 (.build [.nil, .nil, .nil, .c (.int .i64 0)] [(0, 2, tT 55), (2, 1, tT 57), (3, 1, tT 58)]), [0, 1, 2, 3]), (oO 60 (.box 4 (tT 59)), [0, 1, 2, 3, 4]), (oO 12 (.alloc [.c (.pointer none)]), [])], [sT 1 12 60], [3]⟩) (.dfr [oO 61 (.mkfn 28 [tT 6, tT 12, tT 10, tT 11])] (tT 61) [] (.seq (.dreg ⟨[(lD 62 12, []), (mM 63 2, []), (mM 64 3, []), (oO 65 (.call (.func 27) [tT 64]), [2]), (oO 66 (.call (.func 29) [tT 62, tT 63, tT 65]), [0, 1, 2, 3]), (oO 13 (.alloc [.c (.int .i64 0), .c (.int .i64 0), .c (.string ⟨⟨[]⟩⟩), .nil]), [])], [sT 4 13 66], [1, 2]⟩) (.seq (.dreg ⟨[(lD 67 12, []), (nC 68 67, [0]), (fA 69 2 68, [0, 1]), (lD 70 69, [0, 1, 2]), (oO 71 (.call (.func 27) [tT 70]), [0, 1, 2, 3]), (lA 72 4 13, []), (oO 73 (.call (.func 30) [tT 72]), [0, 1, 2, 3, 4, 5]), (lD 74 12, []), (nC 75 74, [7]), (fA 76 3 75, [7, 8]), (lD 77 76, [7, 8, 9]), (oO 78 (.build [.c (.int .i64 0), .c (.int .i64 0), .c (.string ⟨⟨[]⟩⟩), .nil, .c (.int .i64 0), .c (.int .i64 0)] [(0, 4, tT 73), (5, 1, tT 77)]), [0, 1, 2, 3, 4, 5, 6, 7, 8, 9, 10]), (sT 1 10 71, [0, 1, 2, 3, 4, 5, 6])], [sT 6 11 78], [1, 2, 8, 9]⟩) .ret))))))
theorem qH0 : FnD prog ph0 79 mU0 [(.ld (.tmp 10)), (.lda 6 (.tmp 11))] := .of (fn := Tryz.f11) Tryz.func11 (by kernel_rfl)
def dW0 : Cd := sR [bX 5 2 0, oO 10 (.mv (.const (.slice none 0 0))), oO 11 (.alloc [zI, zI, zS, .nil, zI, zI])] (sR [lA 19 2 5, mM 20 1, lN 21 20, cC 22 31 [tT 19, tT 21], bI 23 .eql 22 0, mM 24 23, xM 25 24 true 2, xI 26 24 true .geq 25 0, pF 27 24 26, mM 28 27, xM 29 28 true 2, xF 30 28 true 1 5, xD 31 28 true 30, xL 32 28 true 31, gO 33 28 true (.bin .lss (tT 29) (tT 32)), pF 34 28 33, mM 12 34] (sR [mM 35 12, mM 36 35, xM 37 36 true 3, xL 38 36 true 37, xF 39 36 true 1 5, xD 40 36 true 39, xM 41 36 true 2, gO 42 36 true (.ia 5 (tT 40) (tT 41)), xF 43 36 true 0 42, xD 44 36 true 43, gO 45 36 true (.bin .eql (tT 38) (tT 44)), pF 46 36 45, mM 12 46] (.seq (sR [mM 47 1, lN 48 47, mC 49 0] (.blk 0 (.loop (sR [bB 50 .lss 49 48] (.seq (cO 50 .skip (.exit 0)) (.seq (.blk 1 (sR [iA 51 4 47 49, lA 52 4 51, oO 14 (.alloc [zI, zI, zS, .nil]), sT 4 14 52] (.reg [mM 53 12, mM 54 53, xA 55 54 true 4 14, gO 56 54 true (.call (.func 10) [tT 55]), pF 57 54 56, mM 12 57]))) (.reg [bI 58 .add 49 1, mM 49 58]))))))) (.seq (sR [mM 59 3, lN 60 59, mC 61 0] (.blk 2 (.loop (sR [bB 62 .lss 61 60] (.seq (cO 62 .skip (.exit 2)) (.seq (.blk 3 (sR [iA 63 4 59 61, lA 64 4 63, oO 16 (.alloc [zI, zI, zS, .nil]), sT 4 16 64] (.reg [mM 65 12, mM 66 65, xA 67 66 true 4 16, gO 68 66 true (.call (.func 10) [tT 67]), pF 69 66 68, mM 12 69]))) (.reg [bI 70 .add 61 1, mM 61 70]))))))) (.seq (sR [mM 71 12, oO 72 (.un .not (tT 71))] (cO 72 (sR [oO 73 (.build [zI, zI, zS, .nil, zI, zI] [(4, 1, iC 40)]), oO 10 (.mv (.const (.slice none 0 0))), sT 6 11 73] .ret) .skip)) (.seq (sR [mM 74 4, bI 75 .lss 74 0] (cO 75 (.reg [mC 4 0]) .skip)) (.seq (sR [mM 76 4, bI 77 .gtr 76 4096] (cO 77 (.reg [mC 4 4096]) .skip)) (.seq (.dreg ⟨[(lA 78 2 5, []), (mM 79 1, []), (cC 80 16 [tT 79], [1]), (mM 81 4, [])], [oO 82 (.build [.nil, .nil, .nil, zI, zI] [(0, 2, tT 78), (2, 1, tT 80), (3, 1, tT 81)]), bX 83 5 82, mM 17 83], [1, 3]⟩) (sR [mM 84 17, mM 85 2, mM 86 3, cC 87 16 [tT 86], cC 88 32 [tT 84, tT 85, tT 87], oO 18 (.alloc [zI, zI, zS, .nil]), sT 4 18 88] (.seq (sR [mM 89 17, nC 90 89, fA 91 4 90, lD 92 91, bI 93 .neq 92 0] (cO 93 (.seq (.dreg ⟨[(mM 94 1, []), (cC 95 16 [tT 94], [0]), (mM 96 17, []), (nC 97 96, [2]), (fA 98 4 97, [2, 3]), (lD 99 98, [2, 3, 4]), (mM 100 17, []), (nC 101 100, [6]), (fA 102 3 101, [6, 7]), (lD 103 102, [6, 7, 8]), (oO 104 (.build [zI, zI, zS, .nil, zI, zI] [(4, 1, tT 99), (5, 1, tT 103)]), [2, 3, 4, 5, 6, 7, 8, 9]), (mM 10 95, [0, 1])], [sT 6 11 104], [0, 2, 3, 4, 6, 7, 8, 11]⟩) .ret) .skip)) (.seq (.dreg ⟨[(mM 105 17, []), (nC 106 105, [0]), (fA 107 2 106, [0, 1]), (lD 108 107, [0, 1, 2]), (cC 109 16 [tT 108], [0, 1, 2, 3]), (lA 110 4 18, []), (cC 111 17 [tT 110], [0, 1, 2, 3, 4, 5]), (mM 112 17, []), (nC 113 112, [7]), (fA 114 3 113, [7, 8]), (lD 115 114, [7, 8, 9]), (oO 116 (.build [zI, zI, zS, .nil, zI, zI] [(0, 4, tT 111), (5, 1, tT 115)]), [0, 1, 2, 3, 4, 5, 6, 7, 8, 9, 10]), (mM 10 109, [0, 1, 2, 3, 4, 5, 6])], [sT 6 11 116], [0, 1, 2, 7, 8, 9, 12]⟩) .ret)))))))))))
theorem gW0 : FnIs prog eB0 117 dW0 [(.mv (.tmp 10)), (.lda 6 (.tmp 11))] := .of (fn := Tryz.f12) Tryz.func12 (by kernel_rfl)
def en0 : Cd := sR [mB 4 false] (.seq (sR [mM 6 0, lN 7 6, mM 8 1, lN 9 8, bB 10 .neq 7 9] (cO 10 (sR [mB 4 false] .ret) .skip)) (.seq (sR [mM 11 0, lN 12 11, mC 13 0] (.blk 0 (.loop (sR [bB 14 .lss 13 12] (.seq (cO 14 .skip (.exit 0)) (.seq (.blk 1 (sR [mM 15 13, mM 5 15] (.seq (.dreg ⟨[(mM 16 0, []), (mM 17 5, []), (iA 18 4 16 17, [0, 1]), (lA 19 4 18, [0, 1, 2]), (mM 20 1, []), (mM 21 5, []), (iA 22 4 20 21, [4, 5]), (lA 23 4 22, [4, 5, 6])], [cC 24 15 [tT 19, tT 23], oO 25 (.un .not (tT 24))], [0, 1, 4, 5]⟩) (cO 25 (sR [mB 4 false] .ret) .skip)))) (.reg [bI 26 .add 13 1, mM 13 26]))))))) (sR [mB 4 true] .ret)))
theorem iB0 : FnIs prog eP0 27 en0 [(.mv (.tmp 4))] := .of (fn := Tryz.f13) Tryz.func13 (by kernel_rfl)
def bB0 : Cd := sR [bX 2 6 0, bX 3 6 1, mB 4 false] (sR [fA 5 4 2, lD 6 5, fA 7 4 3, lD 8 7, bB 9 .eql 6 8, mM 10 9, xF 11 10 true 5 2, xD 12 10 true 11, xF 13 10 true 5 3, xD 14 10 true 13, gO 15 10 true (.bin .eql (tT 12) (tT 14)), pF 16 10 15, mM 17 16, xF 18 17 true 0 2, xA 19 17 true 4 18, xF 20 17 true 0 3, xA 21 17 true 4 20, gO 22 17 true (.call (.func 15) [tT 19, tT 21]), pF 23 17 22, mM 4 23] .ret)
theorem gt0 : FnIs prog dj0 24 bB0 [(.mv (.tmp 4))] := .of (fn := Tryz.f14) Tryz.func14 (by kernel_rfl)
def fH0 : Cd := sR [bX 2 4 0, bX 3 4 1, mB 4 false] (sR [lA 5 4 2, lA 6 4 3, cC 7 33 [tT 5, tT 6], bI 8 .eql 7 0, mM 4 8] .ret)
theorem kC0 : FnIs prog ea0 9 fH0 [(.mv (.tmp 4))] := .of (fn := Tryz.f15) Tryz.func15 (by kernel_rfl)
def b10 : Cd := sR [oO 2 (.mv (.const (.slice none 0 0)))] (sR [oO 3 (.mv (.const (.slice none 0 0)))] (.seq (sR [mM 6 0, lN 7 6, mC 8 0] (.blk 0 (.loop (sR [bB 9 .lss 8 7] (.seq (cO 9 .skip (.exit 0)) (.seq (.blk 1 (sR [iA 10 4 6 8, lA 11 4 10, oO 5 (.alloc [zI, zI, zS, .nil]), sT 4 5 11] (.reg [mM 12 3, lA 13 4 5, cC 14 17 [tT 13], oO 15 (.mkrow 31 4 [tT 14]), oO 16 (.app 31 4 56 (tT 12) (tT 15)), mM 3 16]))) (.reg [bI 17 .add 8 1, mM 8 17]))))))) (sR [mM 18 3, mM 2 18] .ret)))
theorem cK0 : FnIs prog cf0 19 b10 [(.mv (.tmp 2))] := .of (fn := Tryz.f16) Tryz.func16 (by kernel_rfl)
def dr0 : Cd := sR [bX 1 4 0, oO 2 (.alloc [zI, zI, zS, .nil])] (sR [fA 6 0 1, lD 7 6, fA 8 1 1, lD 9 8, fA 10 2 1, lD 11 10, oO 12 (.build [zI, zI, zS, .nil] [(0, 1, tT 7), (1, 1, tT 9), (2, 1, tT 11)]), oO 3 (.alloc [zI, zI, zS, .nil]), sT 4 3 12] (.seq (sR [fA 13 3 1, lD 14 13, lN 15 14, mC 16 0] (.blk 0 (.loop (sR [bB 17 .lss 16 15] (.seq (cO 17 .skip (.exit 0)) (.seq (.blk 1 (sR [iA 18 4 14 16, lA 19 4 18, oO 5 (.alloc [zI, zI, zS, .nil]), sT 4 5 19] (.dreg ⟨[(fA 20 3 3, []), (lD 21 20, [0]), (lA 22 4 5, []), (cC 23 17 [tT 22], [2]), (oO 24 (.mkrow 31 4 [tT 23]), [2, 3])], [oO 25 (.app 31 4 56 (tT 21) (tT 24)), fA 26 3 3, sT 1 26 25], [0]⟩))) (.reg [bI 27 .add 16 1, mM 16 27]))))))) (sR [lA 28 4 3, sT 4 2 28] .ret)))
theorem gb0 : FnIs prog dY0 29 dr0 [(.lda 4 (.tmp 2))] := .of (fn := Tryz.f17) Tryz.func17 (by kernel_rfl)
def e50 : Cd := sR [oO 2 (.alloc [.nil, .nil])] (sR [oO 3 (.build [zI, zI, zS, .nil] [(0, 1, iC 1), (1, 1, iC 7)]), oO 4 (.mkrow 31 4 [tT 3]), mM 5 0, oO 6 (.build [zI, zI, zI, zI, .nil] [(3, 1, iC 1), (4, 1, tT 5)]), oO 7 (.mkrow 52 5 [tT 6]), oO 8 (.build [.nil, .nil] [(0, 1, tT 4), (1, 1, tT 7)]), sT 2 2 8] .ret)
theorem jY0 : FnIs prog fR0 9 e50 [(.lda 2 (.tmp 2))] := .of (fn := Tryz.f19) Tryz.func19 (by kernel_rfl)
def e30 : Cd := sR [bX 2 4 0, mB 4 false] (.seq (.dreg ⟨[(mM 7 1, []), (nC 8 7, [0]), (lD 9 8, [0, 1]), (fA 10 2 2, []), (lD 11 10, [3]), (lS 12 11, [3, 4]), (oO 13 (.bin .add (iC 1) (tT 12)), [3, 4, 5])], [bB 14 .add 9 13, nC 15 7, sT 1 15 14], [0, 1, 3]⟩) (.seq (sR [mM 16 1, nC 17 16, lD 18 17, bI 19 .gtr 18 16384] (cO 19 (sR [mB 4 true] .ret) .skip)) (.seq (sR [fA 20 3 2, lD 21 20, lN 22 21, mC 23 0] (.blk 0 (.loop (sR [bB 24 .lss 23 22] (.seq (cO 24 .skip (.exit 0)) (.seq (.blk 1 (sR [iA 25 4 21 23, lA 26 4 25, oO 6 (.alloc [zI, zI, zS, .nil]), sT 4 6 26] (sR [lA 27 4 6, mM 28 1, cC 29 20 [tT 27, tT 28]] (cO 29 (sR [mB 4 true] .ret) .skip)))) (.reg [bI 30 .add 23 1, mM 23 30]))))))) (sR [mB 4 false] .ret))))
theorem jW0 : FnIs prog fP0 31 e30 [(.mv (.tmp 4))] := .of (fn := Tryz.f20) Tryz.func20 (by kernel_rfl)
def ii0 : Cd := sR [bX 1 4 0, mC 2 0] (sR [fA 6 2 1, lD 7 6, lS 8 7, oO 9 (.bin .add (iC 1) (tT 8)), mM 3 9] (.seq (sR [fA 10 3 1, lD 11 10, lN 12 11, mC 13 0] (.blk 0 (.loop (sR [bB 14 .lss 13 12] (.seq (cO 14 .skip (.exit 0)) (.seq (.blk 1 (sR [iA 15 4 11 13, lA 16 4 15, oO 5 (.alloc [zI, zI, zS, .nil]), sT 4 5 16] (.reg [mM 17 3, lA 18 4 5, cC 19 21 [tT 18], bB 20 .add 17 19, mM 3 20]))) (.reg [bI 21 .add 13 1, mM 13 21]))))))) (sR [mM 22 3, mM 2 22] .ret)))
theorem m40 : FnIs prog jw0 23 ii0 [(.mv (.tmp 2))] := .of (fn := Tryz.f21) Tryz.func21 (by kernel_rfl)
def mF0 : Cd := sR [bX 1 4 0, mB 2 false] (.seq (sR [fA 3 0 1, lD 4 3] (.blk 0 (sR [bI 6 .eql 4 1, mM 5 6] (cO 5 (sR [fA 7 2 1, lD 8 7, oO 9 (.bin .eql (tT 8) (.const (.string ⟨⟨[]⟩⟩))), mM 10 9, xF 11 10 true 3 1, xD 12 10 true 11, xL 13 10 true 12, xI 14 10 true .eql 13 0, pF 15 10 14, mM 2 15] .ret) (sR [bI 17 .eql 4 2, mM 16 17] (cO 16 (sR [fA 18 2 1, lD 19 18, oO 20 (.bin .eql (tT 19) (.const (.string ⟨⟨[]⟩⟩))), mM 21 20, xF 22 21 true 3 1, xD 23 21 true 22, xL 24 21 true 23, xI 25 21 true .eql 24 0, pF 26 21 25, mM 27 26, xF 28 27 true 1 1, xD 29 27 true 28, xI 30 27 true .eql 29 0, xM 31 27 true 30, xF 32 31 false 1 1, xD 33 31 false 32, xI 34 31 false .eql 33 1, gO 35 27 true (.pick (tT 31) (bC true) (tT 34)), pF 36 27 35, mM 2 36] .ret) (sR [bI 38 .eql 4 3, mM 37 38] (cO 37 (sR [fA 39 1 1, lD 40 39, bI 41 .eql 40 0, mM 42 41, xF 43 42 true 3 1, xD 44 42 true 43, xL 45 42 true 44, xI 46 42 true .eql 45 0, pF 47 42 46, mM 48 47, xF 49 48 true 2 1, xD 50 48 true 49, gO 51 48 true (.lenS (tT 50)), xI 52 48 true .leq 51 256, pF 53 48 52, mM 2 53] .ret) (.seq (sR [bI 55 .eql 4 4, mM 54 55] (cO 54 .skip (.reg [bI 56 .eql 4 5, mM 54 56]))) (cO 54 (.seq (sR [fA 57 1 1, lD 58 57, bI 59 .neq 58 0, mM 60 59, xF 61 60 false 2 1, xD 62 60 false 61, gO 63 60 false (.bin .neq (tT 62) (.const (.string ⟨⟨[]⟩⟩))), pT 64 60 63, mM 65 64, xF 66 65 false 3 1, xD 67 65 false 66, gO 68 65 false (.call (.func 34) [tT 67, .func 35]), pT 69 65 68] (cO 69 (sR [mB 2 false] .ret) .skip)) (sR [fA 70 0 1, lD 71 70, bI 72 .eql 71 4, mM 73 72, xF 74 73 true 3 1, xD 75 73 true 74, xL 76 73 true 75, xI 77 73 true .leq 76 64, pF 78 73 77, mM 79 78, xF 80 79 false 0 1, xD 81 79 false 80, xI 82 79 false .eql 81 5, xM 83 79 false 82, xF 84 83 true 3 1, xD 85 83 true 84, gO 86 83 true (.call (.func 36) [tT 85]), gO 87 79 false (.pick (tT 83) (tT 86) (bC false)), pT 88 79 87, mM 2 88] .ret)) .skip)))))))))) (sR [mB 2 false] .ret))
theorem ry0 : FnIs prog oP0 89 mF0 [(.mv (.tmp 2))] := .of (fn := Tryz.f22) Tryz.func22 (by kernel_rfl)
def eI0 : Cd := sR [bX 1 4 0, mC 2 0] (sR [fA 6 2 1, lD 7 6, lS 8 7, oO 9 (.bin .add (iC 1) (tT 8)), mM 3 9] (.seq (sR [fA 10 3 1, lD 11 10, lN 12 11, mC 13 0] (.blk 0 (.loop (sR [bB 14 .lss 13 12] (.seq (cO 14 .skip (.exit 0)) (.seq (.blk 1 (sR [iA 15 4 11 13, lA 16 4 15, oO 5 (.alloc [zI, zI, zS, .nil]), sT 4 5 16] (.reg [mM 17 3, lA 18 4 5, cC 19 23 [tT 18], bB 20 .add 17 19, mM 3 20]))) (.reg [bI 21 .add 13 1, mM 13 21]))))))) (sR [mM 22 3, mM 2 22] .ret)))
theorem jj0 : FnIs prog fd0 23 eI0 [(.mv (.tmp 2))] := .of (fn := Tryz.f23) Tryz.func23 (by kernel_rfl)
def aB0 : Cd := sR [bX 1 4 0, mB 2 false] (.seq (sR [fA 5 0 1, lD 6 5, bI 7 .lss 6 1, mM 8 7, xF 9 8 false 0 1, xD 10 8 false 9, xI 11 8 false .gtr 10 5, pT 12 8 11, mM 13 12, xF 14 13 false 0 1, xD 15 13 false 14, xI 16 13 false .neq 15 3, xM 17 13 false 16, xF 18 17 true 2 1, xD 19 17 true 18, gO 20 17 true (.bin .neq (tT 19) (.const (.string ⟨⟨[]⟩⟩))), gO 21 13 false (.pick (tT 17) (tT 20) (bC false)), pT 22 13 21, mM 23 22, xF 24 23 false 0 1, xD 25 23 false 24, xI 26 23 false .gtr 25 2, xM 27 23 false 26, xF 28 27 true 1 1, xD 29 27 true 28, xI 30 27 true .neq 29 0, gO 31 23 false (.pick (tT 27) (tT 30) (bC false)), pT 32 23 31, mM 33 32, xF 34 33 false 0 1, xD 35 33 false 34, xI 36 33 false .lss 35 4, xM 37 33 false 36, xF 38 37 true 3 1, xD 39 37 true 38, xL 40 37 true 39, xI 41 37 true .gtr 40 0, gO 42 33 false (.pick (tT 37) (tT 41) (bC false)), pT 43 33 42] (cO 43 (sR [mB 2 false] .ret) .skip)) (.seq (sR [fA 44 3 1, lD 45 44, lN 46 45, mC 47 0] (.blk 0 (.loop (sR [bB 48 .lss 47 46] (.seq (cO 48 .skip (.exit 0)) (.seq (.blk 1 (sR [mM 49 47, iA 50 4 45 47, lA 51 4 50, oO 4 (.alloc [zI, zI, zS, .nil]), mM 3 49, sT 4 4 51] (.seq (sR [lA 52 4 4, cC 53 24 [tT 52], oO 54 (.un .not (tT 53))] (cO 54 (sR [mB 2 false] .ret) .skip)) (.seq (.dreg ⟨[(fA 55 0 1, []), (lD 56 55, [0]), (bI 57 .eql 56 5, [0, 1]), (mM 58 57, [0, 1, 2]), (xM 59 58 true 3, [0, 1, 2, 3]), (xI 60 58 true .rem 59 2, [0, 1, 2, 3, 4]), (xI 61 58 true .eql 60 0, [0, 1, 2, 3, 4, 5]), (pF 62 58 61, [0, 1, 2, 3, 4, 5, 6]), (mM 63 62, [0, 1, 2, 3, 4, 5, 6, 7]), (xM 64 63 true 3, [0, 1, 2, 3, 4, 5, 6, 7, 8]), (xI 65 63 true .gtr 64 0, [0, 1, 2, 3, 4, 5, 6, 7, 8, 9]), (pF 66 63 65, [0, 1, 2, 3, 4, 5, 6, 7, 8, 9, 10]), (mM 67 66, [0, 1, 2, 3, 4, 5, 6, 7, 8, 9, 10, 11]), (xF 68 67 true 3 1, [0, 1, 2, 3, 4, 5, 6, 7, 8, 9, 10, 11, 12]), (xD 69 67 true 68, [0, 1, 2, 3, 4, 5, 6, 7, 8, 9, 10, 11, 12, 13]), (xM 70 67 true 3, [0, 1, 2, 3, 4, 5, 6, 7, 8, 9, 10, 11, 12]), (xI 71 67 true .sub 70 2, [0, 1, 2, 3, 4, 5, 6, 7, 8, 9, 10, 11, 12, 15]), (gO 72 67 true (.ia 4 (tT 69) (tT 71)), [0, 1, 2, 3, 4, 5, 6, 7, 8, 9, 10, 11, 12, 13, 14, 15, 16]), (xA 73 67 true 4 72, [0, 1, 2, 3, 4, 5, 6, 7, 8, 9, 10, 11, 12, 13, 14, 15, 16, 17]), (xA 74 67 true 4 4, [0, 1, 2, 3, 4, 5, 6, 7, 8, 9, 10, 11, 12])], [gO 75 67 true (.call (.func 33) [tT 73, tT 74]), xI 76 67 true .geq 75 0, pF 77 67 76], [0, 3, 8, 12]⟩) (cO 77 (sR [mB 2 false] .ret) .skip))))) (.reg [bI 78 .add 47 1, mM 47 78]))))))) (.seq (sR [fA 79 0 1, lD 80 79] (.blk 2 (sR [bI 82 .eql 80 2, mM 81 82] (cO 81 (sR [fA 83 1 1, lD 84 83, bI 85 .eql 84 0, mM 86 85, xF 87 86 false 1 1, xD 88 86 false 87, xI 89 86 false .eql 88 1, pT 90 86 89, mM 2 90] .ret) (sR [bI 92 .eql 80 3, mM 91 92] (cO 91 (sR [fA 93 2 1, lD 94 93, lS 95 94, bI 96 .leq 95 256, mM 2 96] .ret) (sR [bI 98 .eql 80 4, mM 97 98] (cO 97 (sR [fA 99 3 1, lD 100 99, lN 101 100, bI 102 .leq 101 64, mM 2 102] .ret) (sR [bI 104 .eql 80 5, mM 103 104] (cO 103 (sR [fA 105 3 1, lD 106 105, lN 107 106, bI 108 .rem 107 2, bI 109 .eql 108 0, mM 110 109, xF 111 110 true 3 1, xD 112 110 true 111, xL 113 110 true 112, xI 114 110 true .leq 113 128, pF 115 110 114, mM 2 115] .ret) .skip)))))))))) (sR [mB 2 true] .ret))))
theorem j30 : FnIs prog fW0 116 aB0 [(.mv (.tmp 2))] := .of (fn := Tryz.f24) Tryz.func24 (by kernel_rfl)
def jr0 : Cd := sR [bX 2 2 0, mC 4 0] (.seq (sR [fA 11 1 2, lD 12 11, lN 13 12, bI 14 .gtr 13 32, mM 15 14, xM 16 15 false 1, xI 17 15 false .lss 16 0, pT 18 15 17, mM 19 18, xM 20 19 false 1, xI 21 19 false .gtr 20 32, pT 22 19 21, mM 23 22, xF 24 23 false 0 2, xD 25 23 false 24, xL 26 23 false 25, xI 27 23 false .gtr 26 16384, pT 28 23 27] (cO 28 (sR [mC 4 40] .ret) .skip)) (.seq (sR [fA 29 0 2, lD 30 29, lN 31 30, mC 32 0] (.blk 0 (.loop (sR [bB 33 .lss 32 31] (.seq (cO 33 .skip (.exit 0)) (.seq (.blk 1 (sR [iA 34 4 30 32, lA 35 4 34, oO 6 (.alloc [zI, zI, zS, .nil]), sT 4 6 35] (sR [lA 36 4 6, cC 37 37 [tT 36], oO 38 (.bin .eql (tT 37) (.const (.string ⟨⟨[]⟩⟩)))] (cO 38 (sR [mC 4 40] .ret) .skip)))) (.reg [bI 39 .add 32 1, mM 32 39]))))))) (.seq (sR [fA 40 1 2, lD 41 40, lN 42 41, mC 43 0] (.blk 2 (.loop (sR [bB 44 .lss 43 42] (.seq (cO 44 .skip (.exit 2)) (.seq (.blk 3 (sR [mM 45 43, iA 46 5 41 43, lA 47 5 46, oO 8 (.alloc [zI, zI, zI, zI, .nil]), mM 7 45, sT 5 8 47] (.seq (sR [fA 48 0 8, lD 49 48, bI 50 .lss 49 0, mM 51 50, xF 52 51 false 0 8, xD 53 51 false 52, xI 54 51 false .gtr 53 8, pT 55 51 54, mM 56 55, xF 57 56 false 1 8, xD 58 56 false 57, xF 59 56 false 0 8, xD 60 56 false 59, gO 61 56 false (.bin .lss (tT 58) (tT 60)), pT 62 56 61, mM 63 62, xF 64 63 false 1 8, xD 65 63 false 64, xI 66 63 false .gtr 65 256, pT 67 63 66, mM 68 67, xF 69 68 false 2 8, xD 70 68 false 69, xI 71 68 false .lss 70 0, pT 72 68 71, mM 73 72, xF 74 73 false 2 8, xD 75 73 false 74, xF 76 73 false 0 2, xD 77 73 false 76, xL 78 73 false 77, gO 79 73 false (.bin .geq (tT 75) (tT 78)), pT 80 73 79, mM 81 80, xF 82 81 false 3 8, xD 83 81 false 82, xI 84 81 false .lss 83 1, pT 85 81 84, mM 86 85, xF 87 86 false 3 8, xD 88 86 false 87, xI 89 86 false .gtr 88 256, pT 90 86 89, mM 91 90, xF 92 91 false 4 8, xD 93 91 false 92, xL 94 91 false 93, xI 95 91 false .lss 94 1, pT 96 91 95, mM 97 96, xF 98 97 false 4 8, xD 99 97 false 98, xL 100 97 false 99, xI 101 97 false .gtr 100 16384, pT 102 97 101] (cO 102 (sR [mC 4 40] .ret) .skip)) (.seq (sR [fA 103 4 8, lD 104 103, lN 105 104, mC 106 0] (.blk 4 (.loop (sR [bB 107 .lss 106 105] (.seq (cO 107 .skip (.exit 4)) (.seq (.blk 5 (sR [iA 108 2 104 106, lA 109 2 108, oO 10 (.alloc [zI, zI]), sT 2 10 109] (sR [lA 110 2 2, mM 111 1, mM 112 7, lA 113 2 10, cC 114 38 [tT 110, tT 111, tT 112, tT 113], oO 115 (.un .not (tT 114))] (cO 115 (sR [mC 4 40] .ret) .skip)))) (.reg [bI 116 .add 106 1, mM 106 116]))))))) (sR [lA 117 2 2, mM 118 7, cC 119 39 [tT 117, tT 118], oO 120 (.un .not (tT 119))] (cO 120 (sR [mC 4 40] .ret) .skip)))))) (.reg [bI 121 .add 43 1, mM 43 121]))))))) (sR [mC 4 0] .ret))))
theorem n00 : FnIs prog kr0 122 jr0 [(.mv (.tmp 4))] := .of (fn := Tryz.f25) Tryz.func25 (by kernel_rfl)
def qm0 : Cd := sR [mB 2 false] (sR [mM 3 0, cC 4 34 [tT 3, .func 40], oO 5 (.un .not (tT 4)), mM 2 5] .ret)
theorem fn_vm_all : FnIs prog sg0 6 qm0 [(.mv (.tmp 2))] := .of (fn := Tryz.f26) Tryz.func26 (by kernel_rfl)
def fN0 : Cd := sR [oO 2 (.mv (.const (.slice none 0 0)))] (sR [oO 3 (.mv (.const (.slice none 0 0)))] (.seq (sR [mM 6 0, lN 7 6, mC 8 0] (.blk 0 (.loop (sR [bB 9 .lss 8 7] (.seq (cO 9 .skip (.exit 0)) (.seq (.blk 1 (sR [iA 10 4 6 8, lA 11 4 10, oO 5 (.alloc [zI, zI, zS, .nil]), sT 4 5 11] (.reg [mM 12 3, lA 13 4 5, cC 14 30 [tT 13], oO 15 (.mkrow 31 4 [tT 14]), oO 16 (.app 31 4 56 (tT 12) (tT 15)), mM 3 16]))) (.reg [bI 17 .add 8 1, mM 8 17]))))))) (sR [mM 18 3, mM 2 18] .ret)))
theorem iD0 : FnIs prog hH0 19 fN0 [(.mv (.tmp 2))] := .of (fn := Tryz.f27) Tryz.func27 (by kernel_rfl)
def jS0 : Cd := .blk 0 (sR [oO 9 (.isni false (tT 7))] (cO 9 (.reg [mM 4 7]) (sR [oO 10 (.ta 62 (.agg ⟨[.int .i64 0]⟩) (tT 7)), eX 11 10 1, eX 12 10 0] (cO 11 (sR [oO 5 (.alloc [zI]), sT 1 5 12] (.dreg ⟨[(lD 13 0, []), (cC 14 27 [tT 13], [0]), (fA 15 0 5, []), (lD 16 15, [2]), (lD 17 1, []), (nC 18 17, [4]), (fA 19 3 18, [4, 5]), (lD 20 19, [4, 5, 6]), (oO 21 (.build [zI, zI, zS, .nil, zI, zI] [(4, 1, tT 16), (5, 1, tT 20)]), [2, 3, 4, 5, 6, 7]), (sT 1 2 14, [0, 1, 4, 5, 6, 7])], [sT 6 3 21], [2, 5, 6]⟩)) (sR [mM 6 7] (.reg [mM 8 6, nO (.pan (tT 8))]))))))
theorem m50 : FnR prog ln0 22 7 jS0 [] := .of (fn := Tryz.f28) Tryz.func28 (by kernel_rfl)
def fO0 : Cd := sR [oO 6 (.alloc [zI, zI, zS, .nil])] (.seq (.dreg ⟨[(mM 10 0, []), (mM 11 0, []), (nC 12 11, [1]), (fA 13 0 12, [1, 2]), (fA 14 1 13, [1, 2, 3]), (lD 15 14, [1, 2, 3, 4]), (mM 16 1, []), (iA 17 5 15 16, [1, 2, 3, 4, 5, 6]), (lA 18 5 17, [1, 2, 3, 4, 5, 6, 7]), (mM 19 0, []), (nC 20 19, [9]), (fA 21 0 20, [9, 10]), (fA 22 1 21, [9, 10, 11]), (lD 23 22, [9, 10, 11, 12]), (mM 24 1, []), (iA 25 5 23 24, [9, 10, 11, 12, 13, 14]), (fA 26 1 25, [9, 10, 11, 12, 13, 14, 15]), (lD 27 26, [9, 10, 11, 12, 13, 14, 15, 16]), (oO 28 (.mks 31 4 56 [zI, zI, zS, .lst []] (tT 27) (tT 27)), [9, 10, 11, 12, 13, 14, 15, 16, 17])], [oO 29 (.build [.c (.pointer none), zI, zI, zI, zI, .nil, .nil, .nil, zI] [(0, 1, tT 10), (1, 5, tT 18), (6, 1, tT 28)]), bX 30 9 29, mM 7 30], [0, 1, 2, 3, 4, 6, 9, 10, 11, 12, 14, 16]⟩) (.seq (sR [mM 31 7, nC 32 31, fA 33 6 32, lD 34 33, lN 35 34, mC 36 0] (.blk 0 (.loop (sR [bB 37 .lss 36 35] (.seq (cO 37 .skip (.exit 0)) (.seq (.blk 1 (sR [mM 38 36, mM 8 38] (.dreg ⟨[(mM 39 7, []), (nC 40 39, [0]), (fA 41 6 40, [0, 1]), (lD 42 41, [0, 1, 2]), (mM 43 8, []), (cC 44 41 [iC 0], [])], [iA 45 4 42 43, sT 4 45 44], [0, 1, 2, 4]⟩))) (.reg [bI 46 .add 36 1, mM 36 46]))))))) (sR [mM 47 7, nC 48 47, fA 49 6 48, lD 50 49, mM 51 2, oO 52 (.cpy 4 (tT 50) (tT 51))] (.blk 2 (.loop (.blk 3 (.seq (.dreg ⟨[(mM 53 7, []), (nC 54 53, [0]), (fA 55 1 54, [0, 1]), (fA 56 4 55, [0, 1, 2]), (lD 57 56, [0, 1, 2, 3]), (mM 58 7, []), (nC 59 58, [5]), (fA 60 8 59, [5, 6]), (lD 61 60, [5, 6, 7]), (iA 62 2 57 61, [0, 1, 2, 3, 4, 5, 6, 7, 8]), (lA 63 2 62, [0, 1, 2, 3, 4, 5, 6, 7, 8, 9]), (oO 9 (.alloc [zI, zI]), [])], [sT 2 9 63], [0, 1, 2, 3, 5, 6, 7]⟩) (sR [mM 64 7, nC 65 64, fA 66 8 65, lD 67 66, bI 68 .add 67 1, nC 69 64, fA 70 8 69, sT 1 70 68] (.seq (sR [fA 71 0 9, lD 72 71, bI 73 .eql 72 10] (cO 73 (sR [mM 74 7, cC 75 42 [tT 74], sT 4 6 75] .ret) .skip)) (.dreg ⟨[(fA 76 0 9, []), (lD 77 76, [0]), (cC 78 43 [tT 77], [0, 1]), (mM 79 7, []), (fA 80 1 9, []), (lD 81 80, [4])], [oO 82 (.call (tT 78) [tT 79, tT 81])], [0, 3, 4]⟩))))))))))
theorem kM0 : FnIs prog cS0 83 fO0 [(.lda 4 (.tmp 6))] := .of (fn := Tryz.f29) Tryz.func29 (by kernel_rfl)
def hd0 : Cd := sR [bX 1 4 0, oO 2 (.alloc [zI, zI, zS, .nil])] (sR [fA 4 3 1, lD 5 4, cC 6 44 [tT 5], fA 7 3 1, sT 1 7 6] (.seq (sR [fA 8 3 1, lD 9 8, lN 10 9, mC 11 0] (.blk 0 (.loop (sR [bB 12 .lss 11 10] (.seq (cO 12 .skip (.exit 0)) (.seq (.blk 1 (sR [mM 13 11, mM 3 13] (.dreg ⟨[(fA 14 3 1, []), (lD 15 14, [0]), (mM 16 3, []), (fA 17 3 1, []), (lD 18 17, [3]), (mM 19 3, []), (iA 20 4 18 19, [3, 4, 5]), (lA 21 4 20, [3, 4, 5, 6]), (cC 22 30 [tT 21], [3, 4, 5, 6, 7])], [iA 23 4 15 16, sT 4 23 22], [0, 2, 3, 5]⟩))) (.reg [bI 24 .add 11 1, mM 11 24]))))))) (sR [lA 25 4 1, sT 4 2 25] .ret)))
theorem kK0 : FnIs prog eo0 26 hd0 [(.lda 4 (.tmp 2))] := .of (fn := Tryz.f30) Tryz.func30 (by kernel_rfl)
def eL0 : Cd := sR [bX 2 2 0, mC 4 0] (.seq (sR [mM 11 1, bI 12 .lss 11 0, mM 13 12, xM 14 13 false 1, xI 15 13 false .gtr 14 32, pT 16 13 15, mM 17 16, xF 18 17 false 1 2, xD 19 17 false 18, xL 20 17 false 19, xI 21 17 false .gtr 20 32, pT 22 17 21, mM 23 22, xF 24 23 false 0 2, xD 25 23 false 24, xL 26 23 false 25, xI 27 23 false .gtr 26 16384, pT 28 23 27] (cO 28 (sR [mC 4 40] .ret) .skip)) (.seq (sR [fA 29 0 2, lD 30 29, lN 31 30, mC 32 0] (.blk 0 (.loop (sR [bB 33 .lss 32 31] (.seq (cO 33 .skip (.exit 0)) (.seq (.blk 1 (sR [iA 34 4 30 32, lA 35 4 34, oO 6 (.alloc [zI, zI, zS, .nil]), sT 4 6 35] (sR [lA 36 4 6, cC 37 45 [tT 36], oO 38 (.bin .eql (tT 37) (.const (.string ⟨⟨[]⟩⟩)))] (cO 38 (sR [mC 4 40] .ret) .skip)))) (.reg [bI 39 .add 32 1, mM 32 39]))))))) (.seq (sR [fA 40 1 2, lD 41 40, lN 42 41, mC 43 0] (.blk 2 (.loop (sR [bB 44 .lss 43 42] (.seq (cO 44 .skip (.exit 2)) (.seq (.blk 3 (sR [mM 45 43, iA 46 5 41 43, lA 47 5 46, oO 8 (.alloc [zI, zI, zI, zI, .nil]), mM 7 45, sT 5 8 47] (.seq (sR [fA 48 0 8, lD 49 48, bI 50 .lss 49 0, mM 51 50, xF 52 51 false 0 8, xD 53 51 false 52, xI 54 51 false .gtr 53 8, pT 55 51 54, mM 56 55, xF 57 56 false 1 8, xD 58 56 false 57, xF 59 56 false 0 8, xD 60 56 false 59, gO 61 56 false (.bin .lss (tT 58) (tT 60)), pT 62 56 61, mM 63 62, xF 64 63 false 1 8, xD 65 63 false 64, xI 66 63 false .gtr 65 256, pT 67 63 66, mM 68 67, xF 69 68 false 2 8, xD 70 68 false 69, xI 71 68 false .lss 70 0, pT 72 68 71, mM 73 72, xF 74 73 false 2 8, xD 75 73 false 74, xF 76 73 false 0 2, xD 77 73 false 76, xL 78 73 false 77, gO 79 73 false (.bin .geq (tT 75) (tT 78)), pT 80 73 79, mM 81 80, xF 82 81 false 3 8, xD 83 81 false 82, xI 84 81 false .lss 83 1, pT 85 81 84, mM 86 85, xF 87 86 false 3 8, xD 88 86 false 87, xI 89 86 false .gtr 88 256, pT 90 86 89, mM 91 90, xF 92 91 false 4 8, xD 93 91 false 92, xL 94 91 false 93, xI 95 91 false .lss 94 1, pT 96 91 95, mM 97 96, xF 98 97 false 4 8, xD 99 97 false 98, xL 100 97 false 99, xI 101 97 false .gtr 100 16384, pT 102 97 101] (cO 102 (sR [mC 4 40] .ret) .skip)) (.seq (sR [fA 103 4 8, lD 104 103, lN 105 104, mC 106 0] (.blk 4 (.loop (sR [bB 107 .lss 106 105] (.seq (cO 107 .skip (.exit 4)) (.seq (.blk 5 (sR [iA 108 2 104 106, lA 109 2 108, oO 10 (.alloc [zI, zI]), sT 2 10 109] (sR [lA 110 2 2, mM 111 1, mM 112 7, lA 113 2 10, cC 114 46 [tT 110, tT 111, tT 112, tT 113], oO 115 (.un .not (tT 114))] (cO 115 (sR [mC 4 40] .ret) .skip)))) (.reg [bI 116 .add 106 1, mM 106 116]))))))) (sR [lA 117 2 2, mM 118 7, cC 119 47 [tT 117, tT 118], oO 120 (.un .not (tT 119))] (cO 120 (sR [mC 4 40] .ret) .skip)))))) (.reg [bI 121 .add 43 1, mM 43 121]))))))) (sR [mC 4 0] .ret))))
theorem jl0 : FnIs prog fg0 122 eL0 [(.mv (.tmp 4))] := .of (fn := Tryz.f31) Tryz.func31 (by kernel_rfl)
def di0 : Cd := sR [oO 6 (.alloc [zI, zI, zS, .nil])] (sR [mM 15 0, nC 16 15, fA 17 0 16, fA 18 1 17, lD 19 18, mM 20 1, iA 21 5 19 20, lA 22 5 21, oO 7 (.alloc [zI, zI, zI, zI, .nil]), sT 5 7 22] (sR [oO 23 (.mkrow 31 4 []), mM 24 2, oO 25 (.app 31 4 56 (tT 23) (tT 24)), mM 8 25] (.seq (.blk 0 (.loop (.seq (sR [mM 26 8, lN 27 26, fA 28 1 7, lD 29 28, bB 30 .lss 27 29] (cO 30 .skip (.exit 0))) (.blk 1 (.reg [mM 31 8, cC 32 48 [iC 0], oO 33 (.mkrow 31 4 [tT 32]), oO 34 (.app 31 4 56 (tT 31) (tT 33)), mM 8 34]))))) (sR [oO 9 (.mv (.const (.slice none 0 0)))] (sR [mC 10 0] (.seq (.blk 2 (.loop (.seq (sR [mM 35 0, nC 36 35, fA 37 4 36, lD 38 37, bI 39 .eql 38 0] (cO 39 .skip (.exit 2))) (.blk 3 (sR [fA 40 4 7, lD 41 40, mM 42 10, iA 43 2 41 42, lA 44 2 43, oO 11 (.alloc [zI, zI]), sT 2 11 44] (.seq (.dreg ⟨[(mM 45 9, []), (lN 46 45, [0]), (mM 47 0, []), (nC 48 47, [2]), (fA 49 0 48, [2, 3]), (lA 50 2 49, [2, 3, 4]), (lA 51 2 11, []), (cC 52 49 [tT 50, tT 51], [2, 3, 4, 5, 6])], [bB 53 .sub 46 52, mM 12 53], [0, 2, 3, 4]⟩) (sR [oO 54 (.mkrow 31 4 []), mM 55 9, mM 56 12, oO 57 (.slL 4 (tT 55) (some (tT 56)) none), oO 58 (.app 31 4 56 (tT 54) (tT 57)), mM 13 58] (sR [oO 59 (.mkrow 31 4 []), mM 60 9, mM 61 12, oO 62 (.slL 4 (tT 60) none (some (tT 61))), oO 63 (.app 31 4 56 (tT 59) (tT 62)), mM 9 63] (sR [mM 64 10, bI 65 .add 64 1, mM 14 65] (.seq (sR [fA 66 0 11, lD 67 66] (.blk 4 (sR [bI 76 .eql 67 1, mM 75 76] (cO 75 (.dreg ⟨[(mM 77 9, []), (mM 78 0, []), (nC 79 78, [1]), (fA 80 0 79, [1, 2]), (fA 81 0 80, [1, 2, 3]), (lD 82 81, [1, 2, 3, 4]), (fA 83 1 11, []), (lD 84 83, [6]), (iA 85 4 82 84, [1, 2, 3, 4, 5, 6, 7]), (lA 86 4 85, [1, 2, 3, 4, 5, 6, 7, 8]), (cC 87 17 [tT 86], [1, 2, 3, 4, 5, 6, 7, 8, 9]), (oO 88 (.mkrow 31 4 [tT 87]), [1, 2, 3, 4, 5, 6, 7, 8, 9, 10])], [oO 89 (.app 31 4 56 (tT 77) (tT 88)), mM 9 89], [0, 1, 2, 3, 4, 6]⟩) (sR [bI 91 .eql 67 2, mM 90 91] (cO 90 (.reg [mM 92 9, mM 93 8, fA 94 1 11, lD 95 94, iA 96 4 93 95, lA 97 4 96, oO 98 (.mkrow 31 4 [tT 97]), oO 99 (.app 31 4 56 (tT 92) (tT 98)), mM 9 99]) (sR [bI 101 .eql 67 3, mM 100 101] (cO 100 (.dreg ⟨[(mM 102 8, []), (fA 103 1 11, []), (lD 104 103, [1]), (mM 105 13, []), (oO 106 (.ia 4 (tT 105) (iC 0)), [3]), (lA 107 4 106, [3, 4])], [iA 108 4 102 104, sT 4 108 107], [0, 1, 3]⟩) (sR [bI 110 .eql 67 4, mM 109 110] (cO 109 (.dreg ⟨[(mM 111 9, []), (mM 112 0, []), (nC 113 112, [1]), (fA 114 2 113, [1, 2]), (lD 115 114, [1, 2, 3]), (fA 116 1 11, []), (lD 117 116, [5]), (iA 118 4 115 117, [1, 2, 3, 4, 5, 6]), (lA 119 4 118, [1, 2, 3, 4, 5, 6, 7]), (oO 120 (.mkrow 31 4 [tT 119]), [1, 2, 3, 4, 5, 6, 7, 8])], [oO 121 (.app 31 4 56 (tT 111) (tT 120)), mM 9 121], [0, 1, 2, 3, 5]⟩) (sR [bI 123 .eql 67 5, mM 122 123] (cO 122 (.dreg ⟨[(mM 124 0, []), (nC 125 124, [0]), (fA 126 2 125, [0, 1]), (lD 127 126, [0, 1, 2]), (fA 128 1 11, []), (lD 129 128, [4]), (mM 130 13, []), (oO 131 (.ia 4 (tT 130) (iC 0)), [6]), (lA 132 4 131, [6, 7])], [iA 133 4 127 129, sT 4 133 132], [0, 1, 2, 4, 6]⟩) (sR [bI 135 .eql 67 6, mM 134 135] (cO 134 .skip (.seq (sR [bI 137 .eql 67 7, mM 136 137] (cO 136 .skip (.reg [bI 138 .eql 67 8, mM 136 138]))) (cO 136 (.seq (sR [fA 139 0 11, lD 140 139, bI 141 .eql 140 8, mM 142 141, xM 143 142 true 13, gO 144 142 true (.ia 4 (tT 143) (iC 0)), xF 145 142 true 0 144, xD 146 142 true 145, xI 147 142 true .neq 146 2, pF 148 142 147] (cO 148 (.reg [mM 149 0, cC 150 50 [tT 149, iC 40]]) .skip)) (sR [fA 151 0 11, lD 152 151, bI 153 .eql 152 7, mM 154 153, xM 155 154 false 13, gO 156 154 false (.ia 4 (tT 155) (iC 0)), xF 157 154 false 1 156, xD 158 154 false 157, xI 159 154 false .eql 158 0, pT 160 154 159] (cO 160 (.seq (sR [fA 161 1 11, lD 162 161, mM 163 10, bB 164 .leq 162 163] (cO 164 (.reg [mM 165 0, cC 166 51 [tT 165, iC 1]]) .skip)) (.reg [fA 167 1 11, lD 168 167, mM 14 168])) .skip))) (sR [bI 170 .eql 67 9, mM 169 170] (cO 169 (sR [mM 171 0, cC 172 51 [tT 171, iC 1]] (sR [mM 173 0, nC 174 173, fA 175 4 174, lD 176 175, bI 177 .eql 176 0] (cO 177 (.reg [mM 178 9, mM 179 0, fA 180 1 11, lD 181 180, mM 182 13, cC 183 32 [tT 179, tT 181, tT 182], oO 184 (.mkrow 31 4 [tT 183]), oO 185 (.app 31 4 56 (tT 178) (tT 184)), mM 9 185]) .skip))) (sR [bI 187 .eql 67 10, mM 186 187] (cO 186 (sR [mM 188 13, oO 189 (.ia 4 (tT 188) (iC 0)), lA 190 4 189, sT 4 6 190] .ret) (sR [bI 192 .eql 67 11, mM 191 192] (cO 191 (.reg [mM 193 0, fA 194 1 11, lD 195 194, cC 196 51 [tT 193, tT 195]]) (.reg [mM 68 9, mM 69 0, lA 70 2 11, mM 71 13, cC 72 52 [tT 69, tT 70, tT 71], oO 73 (.mkrow 31 4 [tT 72]), oO 74 (.app 31 4 56 (tT 68) (tT 73)), mM 9 74]))))))))))))))))))))))) (.reg [mM 197 14, mM 10 197]))))))))))) (sR [oO 198 (.build [zI, zI, zS, .nil] []), sT 4 6 198] .ret)))))))
theorem gV0 : FnIs prog dz0 199 di0 [(.lda 4 (.tmp 6))] := .of (fn := Tryz.f32) Tryz.func32 (by kernel_rfl)
def bC0 : Cd := sR [bX 2 4 0, bX 3 4 1, mC 4 0] (.seq (sR [fA 7 0 2, lD 8 7, fA 9 0 3, lD 10 9, bB 11 .neq 8 10] (cO 11 (.seq (sR [fA 12 0 2, lD 13 12, fA 14 0 3, lD 15 14, bB 16 .lss 13 15] (cO 16 (sR [mC 4 (-1)] .ret) .skip)) (sR [mC 4 1] .ret)) .skip)) (.seq (sR [fA 17 1 2, lD 18 17, fA 19 1 3, lD 20 19, bB 21 .neq 18 20] (cO 21 (.seq (sR [fA 22 1 2, lD 23 22, fA 24 1 3, lD 25 24, bB 26 .lss 23 25] (cO 26 (sR [mC 4 (-1)] .ret) .skip)) (sR [mC 4 1] .ret)) .skip)) (.seq (sR [fA 27 2 2, lD 28 27, fA 29 2 3, lD 30 29, bB 31 .neq 28 30] (cO 31 (.seq (sR [fA 32 2 2, lD 33 32, fA 34 2 3, lD 35 34, bB 36 .lss 33 35] (cO 36 (sR [mC 4 (-1)] .ret) .skip)) (sR [mC 4 1] .ret)) .skip)) (.seq (sR [mC 5 0] (.blk 0 (.loop (.seq (sR [mM 37 5, fA 38 3 2, lD 39 38, lN 40 39, bB 41 .lss 37 40, mM 42 41, xM 43 42 true 5, xF 44 42 true 3 3, xD 45 42 true 44, xL 46 42 true 45, gO 47 42 true (.bin .lss (tT 43) (tT 46)), pF 48 42 47] (cO 48 .skip (.exit 0))) (.seq (.blk 1 (.seq (.dreg ⟨[(fA 51 3 2, []), (lD 52 51, [0]), (mM 53 5, []), (iA 54 4 52 53, [0, 1, 2]), (lA 55 4 54, [0, 1, 2, 3]), (fA 56 3 3, []), (lD 57 56, [5]), (mM 58 5, []), (iA 59 4 57 58, [5, 6, 7]), (lA 60 4 59, [5, 6, 7, 8])], [cC 61 33 [tT 55, tT 60], mM 6 61], [0, 2, 5, 7]⟩) (sR [mM 62 6, bI 63 .neq 62 0] (cO 63 (sR [mM 64 6, mM 4 64] .ret) .skip)))) (.reg [mM 49 5, bI 50 .add 49 1, mM 5 50])))))) (.seq (sR [fA 65 3 2, lD 66 65, lN 67 66, fA 68 3 3, lD 69 68, lN 70 69, bB 71 .lss 67 70] (cO 71 (sR [mC 4 (-1)] .ret) .skip)) (.seq (sR [fA 72 3 2, lD 73 72, lN 74 73, fA 75 3 3, lD 76 75, lN 77 76, bB 78 .gtr 74 77] (cO 78 (sR [mC 4 1] .ret) .skip)) (sR [mC 4 0] .ret)))))))
theorem iA0 : FnIs prog eO0 79 bC0 [(.mv (.tmp 4))] := .of (fn := Tryz.f33) Tryz.func33 (by kernel_rfl)
def aO0 : Cd := sR [mB 4 false] (sR [mM 5 0, mM 6 1, cC 7 53 [tT 5, tT 6], bI 8 .geq 7 0, mM 4 8] .ret)
theorem bo0 : FnIs prog aP0 9 aO0 [(.mv (.tmp 4))] := .of (fn := Tryz.f34) Tryz.func34 (by kernel_rfl)
def km0 : Cd := sR [bX 1 4 0, mB 2 false] (sR [lA 3 4 1, cC 4 22 [tT 3], oO 5 (.un .not (tT 4)), mM 2 5] .ret)
theorem pt0 : FnIs prog ir0 6 km0 [(.mv (.tmp 2))] := .of (fn := Tryz.f35) Tryz.func35 (by kernel_rfl)
def lW0 : Cd := sR [mB 2 false] (.seq (sR [mC 3 2] (.blk 0 (.loop (.seq (sR [mM 4 3, mM 5 0, lN 6 5, bB 7 .lss 4 6] (cO 7 .skip (.exit 0))) (.seq (.blk 1 (.seq (.dreg ⟨[(mM 10 0, []), (mM 11 3, []), (bI 12 .sub 11 2, [1]), (iA 13 4 10 12, [0, 1, 2]), (lA 14 4 13, [0, 1, 2, 3]), (mM 15 0, []), (mM 16 3, []), (iA 17 4 15 16, [5, 6]), (lA 18 4 17, [5, 6, 7])], [cC 19 54 [tT 14, tT 18], bI 20 .geq 19 0], [0, 1, 5, 6]⟩) (cO 20 (sR [mB 2 false] .ret) .skip))) (.reg [mM 8 3, bI 9 .add 8 2, mM 3 9])))))) (sR [mM 21 0, lN 22 21, bI 23 .rem 22 2, bI 24 .eql 23 0, mM 25 24, xM 26 25 true 0, xL 27 25 true 26, xI 28 25 true .leq 27 128, pF 29 25 28, mM 2 29] .ret))
theorem qI0 : FnIs prog mT0 30 lW0 [(.mv (.tmp 2))] := .of (fn := Tryz.f36) Tryz.func36 (by kernel_rfl)
def lO0 : Cd := sR [bX 1 4 0, oO 2 (.mv (.const (.string ⟨⟨[]⟩⟩)))] (.seq (sR [oO 5 (.mkrow 9 1 [.const (.string ⟨⟨[105, 110, 116]⟩⟩), .const (.string ⟨⟨[98, 111, 111, 108]⟩⟩), .const (.string ⟨⟨[116, 101, 120, 116]⟩⟩), .const (.string ⟨⟨[91, 105, 110, 116, 93]⟩⟩), .const (.string ⟨⟨[123, 105, 110, 116, 58, 105, 110, 116, 125]⟩⟩)]), lN 6 5, mC 7 0] (.blk 0 (.loop (sR [bB 8 .lss 7 6] (.seq (cO 8 .skip (.exit 0)) (.seq (.blk 1 (sR [iA 9 1 5 7, lD 10 9, mM 4 10] (sR [fA 11 3 1, lD 12 11, lN 13 12, bI 14 .eql 13 0, mM 15 14, xA 16 15 true 4 1, xM 17 15 true 4, gO 18 15 true (.call (.func 55) [tT 16, tT 17]), pF 19 15 18] (cO 19 (sR [mM 20 4, mM 2 20] .ret) .skip)))) (.reg [bI 21 .add 7 1, mM 7 21]))))))) (sR [oO 2 (.mv (.const (.string ⟨⟨[]⟩⟩)))] .ret))
theorem qz0 : FnIs prog mO0 22 lO0 [(.mv (.tmp 2))] := .of (fn := Tryz.f37) Tryz.func37 (by kernel_rfl)
def kg0 : Cd := sR [bX 4 2 0, bX 7 2 3, mB 8 false] (sR [fA 13 1 4, lD 14 13, mM 15 2, iA 16 5 14 15, lA 17 5 16, oO 9 (.alloc [zI, zI, zI, zI, .nil]), sT 5 9 17] (sR [oO 18 (.mkmap (some .i64)), fA 19 0 4, lD 20 19, lN 21 20, nO (.mput (some .i64) (tT 18) (iC 1) (tT 21)), fA 22 1 9, lD 23 22, nO (.mput (some .i64) (tT 18) (iC 2) (tT 23)), fA 24 1 9, lD 25 24, nO (.mput (some .i64) (tT 18) (iC 3) (tT 25)), mM 26 1, nO (.mput (some .i64) (tT 18) (iC 4) (tT 26)), mM 27 1, nO (.mput (some .i64) (tT 18) (iC 5) (tT 27)), fA 28 4 9, lD 29 28, lN 30 29, nO (.mput (some .i64) (tT 18) (iC 7) (tT 30)), fA 31 4 9, lD 32 31, lN 33 32, nO (.mput (some .i64) (tT 18) (iC 8) (tT 33)), mM 34 2, nO (.mput (some .i64) (tT 18) (iC 9) (tT 34)), nO (.mput (some .i64) (tT 18) (iC 11) (iC 1099511627777)), nO (.mput (some .i64) (tT 18) (iC 12) (iC 14)), mM 35 18, mM 10 35] (.seq (sR [mM 37 10, fA 38 0 7, lD 39 38, oO 40 (.mget (some .i64) (.int .i64 0) true (tT 37) (tT 39)), mM 36 40, eX 41 36 0, eX 42 36 1, mM 11 41, mM 12 42] (sR [mM 43 12] (cO 43 (sR [fA 44 1 7, lD 45 44, bI 46 .geq 45 0, mM 47 46, xF 48 47 true 1 7, xD 49 47 true 48, xM 50 47 true 11, gO 51 47 true (.bin .lss (tT 49) (tT 50)), pF 52 47 51, mM 53 52, xF 54 53 true 0 7, xD 55 53 true 54, xI 56 53 true .neq 55 12, xM 57 53 true 56, xF 58 57 false 1 7, xD 59 57 false 58, xI 60 57 false .geq 59 3, gO 61 53 true (.pick (tT 57) (bC true) (tT 60)), pF 62 53 61, mM 8 62] .ret) .skip))) (sR [fA 63 0 7, lD 64 63, bI 65 .geq 64 1, mM 66 65, xF 67 66 true 0 7, xD 68 66 true 67, xI 69 66 true .leq 68 21, pF 70 66 69, mM 71 70, xF 72 71 true 1 7, xD 73 71 true 72, xI 74 71 true .eql 73 0, pF 75 71 74, mM 8 75] .ret))))
theorem pl0 : FnIs prog l00 76 kg0 [(.mv (.tmp 8))] := .of (fn := Tryz.f38) Tryz.func38 (by kernel_rfl)
def ig0 : Cd := sR [bX 2 2 0, mB 4 false] (sR [fA 17 1 2, lD 18 17, mM 19 1, iA 20 5 18 19, lA 21 5 20, oO 5 (.alloc [zI, zI, zI, zI, .nil]), sT 5 5 21] (sR [fA 22 4 5, lD 23 22, lN 24 23, oO 25 (.mks 3 1 8 [zI] (tT 24) (tT 24)), mM 6 25] (sR [oO 26 (.mkrow 3 1 [iC 0]), mM 7 26] (.seq (sR [mM 27 6, lN 28 27, mC 29 0] (.blk 0 (.loop (sR [bB 30 .lss 29 28] (.seq (cO 30 .skip (.exit 0)) (.seq (.blk 1 (sR [mM 31 29, mM 8 31] (.reg [mM 32 6, mM 33 8, iA 34 1 32 33, nO (.st 1 (tT 34) (iC (-1)))]))) (.reg [bI 35 .add 29 1, mM 29 35]))))))) (sR [mM 36 6, oO 37 (.ia 1 (tT 36) (iC 0)), nO (.st 1 (tT 37) (iC 0))] (.seq (.blk 2 (.loop (.seq (sR [mM 38 7, lN 39 38, bI 40 .gtr 39 0] (cO 40 .skip (.exit 2))) (.blk 3 (sR [mM 41 7, mM 42 7, lN 43 42, bI 44 .sub 43 1, iA 45 1 41 44, lD 46 45, mM 9 46] (sR [mM 47 7, mM 48 7, lN 49 48, bI 50 .sub 49 1, oO 51 (.slL 1 (tT 47) none (some (tT 50))), mM 7 51] (sR [fA 52 4 5, lD 53 52, mM 54 9, iA 55 2 53 54, lA 56 2 55, oO 10 (.alloc [zI, zI]), sT 2 10 56] (sR [lA 58 2 2, lA 59 2 10, cC 60 56 [tT 58, tT 59], mM 57 60, eX 61 57 0, eX 62 57 1, mM 11 61, mM 12 62] (sR [mM 63 6, mM 64 9, iA 65 1 63 64, lD 66 65, mM 67 11, bB 68 .sub 66 67, mM 13 68] (.seq (sR [mM 69 13, bI 70 .lss 69 0, mM 71 70, xM 72 71 false 13, xM 73 71 false 12, gO 74 71 false (.bin .add (tT 72) (tT 73)), xF 75 71 false 3 5, xD 76 71 false 75, gO 77 71 false (.bin .gtr (tT 74) (tT 76)), pT 78 71 77] (cO 78 (sR [mB 4 false] .ret) .skip)) (sR [mM 79 13, mM 80 12, bB 81 .add 79 80, mM 13 81] (sR [oO 14 (.mv (.const (.slice none 0 0)))] (.seq (sR [fA 82 0 10, lD 83 82] (.blk 4 (sR [bI 88 .eql 83 10, mM 87 88] (cO 87 .skip (sR [bI 90 .eql 83 7, mM 89 90] (cO 89 (.reg [fA 91 1 10, lD 92 91, oO 93 (.mkrow 3 1 [tT 92]), mM 14 93]) (sR [bI 95 .eql 83 8, mM 94 95] (cO 94 (.reg [mM 96 9, bI 97 .add 96 1, fA 98 1 10, lD 99 98, oO 100 (.mkrow 3 1 [tT 97, tT 99]), mM 14 100]) (.reg [mM 84 9, bI 85 .add 84 1, oO 86 (.mkrow 3 1 [tT 85]), mM 14 86]))))))))) (sR [mM 101 14, lN 102 101, mC 103 0] (.blk 5 (.loop (sR [bB 104 .lss 103 102] (.seq (cO 104 .skip (.exit 5)) (.seq (.blk 6 (sR [iA 105 1 101 103, lD 106 105, mM 16 106] (.blk 7 (sR [mM 108 16, fA 109 4 5, lD 110 109, lN 111 110, bB 112 .geq 108 111, mM 113 112, xM 114 113 false 6, xM 115 113 false 16, gO 116 113 false (.ia 1 (tT 114) (tT 115)), xD 117 113 false 116, xI 118 113 false .geq 117 0, xM 119 113 false 118, xM 120 119 true 6, xM 121 119 true 16, gO 122 119 true (.ia 1 (tT 120) (tT 121)), xD 123 119 true 122, xM 124 119 true 13, gO 125 119 true (.bin .neq (tT 123) (tT 124)), gO 126 113 false (.pick (tT 119) (tT 125) (bC false)), pT 127 113 126, mM 107 127] (cO 107 (sR [mB 4 false] .ret) (sR [mM 129 6, mM 130 16, iA 131 1 129 130, lD 132 131, bI 133 .lss 132 0, mM 128 133] (cO 128 (sR [mM 134 6, mM 135 16, mM 136 13, iA 137 1 134 135, sT 1 137 136] (.reg [mM 138 7, mM 139 16, oO 140 (.mkrow 3 1 [tT 139]), oO 141 (.app 3 1 8 (tT 138) (tT 140)), mM 7 141])) .skip))))))) (.reg [bI 142 .add 103 1, mM 103 142])))))))))))))))))))) (sR [mB 4 true] .ret)))))))
theorem m00 : FnIs prog ju0 143 ig0 [(.mv (.tmp 4))] := .of (fn := Tryz.f39) Tryz.func39 (by kernel_rfl)
def mE0 : Cd := sR [bX 1 4 0, mB 2 false] (sR [lA 3 4 1, cC 4 9 [tT 3], oO 5 (.un .not (tT 4)), mM 2 5] .ret)
theorem rx0 : FnIs prog lo0 6 mE0 [(.mv (.tmp 2))] := .of (fn := Tryz.f40) Tryz.func40 (by kernel_rfl)
def lS0 : Cd := sR [oO 2 (.alloc [zI, zI, zS, .nil])] (sR [mM 3 0, oO 4 (.build [zI, zI, zS, .nil] [(0, 1, iC 1), (1, 1, tT 3)]), sT 4 2 4] .ret)
theorem qD0 : FnIs prog mQ0 5 lS0 [(.lda 4 (.tmp 2))] := .of (fn := Tryz.f41) Tryz.func41 (by kernel_rfl)
def ij0 : Cd := sR [oO 2 (.alloc [zI, zI, zS, .nil])] (.seq (.dreg ⟨[(mM 4 0, []), (nC 5 4, [0]), (fA 6 7 5, [0, 1]), (lD 7 6, [0, 1, 2]), (mM 8 0, []), (nC 9 8, [4]), (fA 10 7 9, [4, 5]), (lD 11 10, [4, 5, 6]), (lN 12 11, [4, 5, 6, 7]), (bI 13 .sub 12 1, [4, 5, 6, 7, 8]), (iA 14 4 7 13, [0, 1, 2, 3, 4, 5, 6, 7, 8, 9]), (lA 15 4 14, [0, 1, 2, 3, 4, 5, 6, 7, 8, 9, 10]), (oO 3 (.alloc [zI, zI, zS, .nil]), [])], [sT 4 3 15], [0, 1, 2, 4, 5, 6]⟩) (.seq (.dreg ⟨[(mM 16 0, []), (mM 17 0, []), (nC 18 17, [1]), (fA 19 7 18, [1, 2]), (lD 20 19, [1, 2, 3]), (mM 21 0, []), (nC 22 21, [5]), (fA 23 7 22, [5, 6]), (lD 24 23, [5, 6, 7]), (lN 25 24, [5, 6, 7, 8]), (bI 26 .sub 25 1, [5, 6, 7, 8, 9]), (oO 27 (.slL 4 (tT 20) none (some (tT 26))), [1, 2, 3, 4, 5, 6, 7, 8, 9, 10])], [nC 28 16, fA 29 7 28, sT 1 29 27], [0, 1, 2, 3, 5, 6, 7]⟩) (sR [lA 30 4 3, sT 4 2 30] .ret)))
theorem m60 : FnIs prog jx0 31 ij0 [(.lda 4 (.tmp 2))] := .of (fn := Tryz.f42) Tryz.func42 (by kernel_rfl)
def aH0 : Cd := sR [oO 2 (.mv (.const .nilFunc))] (.seq (sR [mM 3 0] (.blk 0 (sR [bI 5 .eql 3 1, mM 4 5] (cO 4 (sR [oO 2 (.mv (.func 57))] .ret) (sR [bI 7 .eql 3 2, mM 6 7] (cO 6 (sR [oO 2 (.mv (.func 59))] .ret) (sR [bI 9 .eql 3 3, mM 8 9] (cO 8 (sR [oO 2 (.mv (.func 60))] .ret) (sR [bI 11 .eql 3 4, mM 10 11] (cO 10 (sR [oO 2 (.mv (.func 61))] .ret) (sR [bI 13 .eql 3 5, mM 12 13] (cO 12 (sR [oO 2 (.mv (.func 62))] .ret) (sR [bI 15 .eql 3 6, mM 14 15] (cO 14 (sR [oO 2 (.mv (.func 63))] .ret) (sR [bI 17 .eql 3 7, mM 16 17] (cO 16 (sR [oO 2 (.mv (.func 64))] .ret) (sR [bI 19 .eql 3 8, mM 18 19] (cO 18 (sR [oO 2 (.mv (.func 65))] .ret) (sR [bI 21 .eql 3 9, mM 20 21] (cO 20 (sR [oO 2 (.mv (.func 67))] .ret) (sR [bI 23 .eql 3 11, mM 22 23] (cO 22 (sR [oO 2 (.mv (.func 68))] .ret) (sR [bI 25 .eql 3 12, mM 24 25] (cO 24 (sR [oO 2 (.mv (.func 70))] .ret) .skip)))))))))))))))))))))))) (sR [mM 26 0, cC 27 73 [tT 26], mM 2 27] .ret))
theorem aM0 : FnIs prog aL0 28 aH0 [(.mv (.tmp 2))] := .of (fn := Tryz.f43) Tryz.func43 (by kernel_rfl)
def a50 : Cd := sR [oO 2 (.mv (.const (.slice none 0 0)))] (.seq (sR [mM 3 0, oO 4 (.isnl false (tT 3))] (cO 4 (sR [oO 2 (.mv (.const (.slice none 0 0)))] .ret) .skip)) (sR [oO 5 (.mkrow 31 4 []), mM 6 0, oO 7 (.app 31 4 56 (tT 5) (tT 6)), mM 2 7] .ret))
theorem bP0 : FnIs prog bd0 8 a50 [(.mv (.tmp 2))] := .of (fn := Tryz.f44) Tryz.func44 (by kernel_rfl)
def dv0 : Cd := sR [bX 1 4 0, oO 2 (.mv (.const (.string ⟨⟨[]⟩⟩)))] (.seq (sR [fA 6 3 1, lD 7 6, lN 8 7, bI 9 .gtr 8 0] (cO 9 (sR [oO 2 (.mv (.const (.string ⟨⟨[]⟩⟩)))] .ret) .skip)) (sR [oO 10 (.build [zS, zS, zS, zS, zS] [(0, 1, .const (.string ⟨⟨[105, 110, 116]⟩⟩)), (1, 1, .const (.string ⟨⟨[98, 111, 111, 108]⟩⟩)), (2, 1, .const (.string ⟨⟨[116, 101, 120, 116]⟩⟩)), (3, 1, .const (.string ⟨⟨[91, 105, 110, 116, 93]⟩⟩)), (4, 1, .const (.string ⟨⟨[123, 105, 110, 116, 58, 105, 110, 116, 125]⟩⟩))]), oO 3 (.alloc [zS, zS, zS, zS, zS]), sT 5 3 10] (.seq (sR [lA 11 5 3, mC 12 0] (.blk 0 (.loop (sR [bI 13 .lss 12 5] (.seq (cO 13 .skip (.exit 0)) (.seq (.blk 1 (sR [oO 14 (.ixA 5 (tT 11) (tT 12)), mM 5 14] (sR [lA 15 4 1, mM 16 5, cC 17 74 [tT 15, tT 16]] (cO 17 (sR [mM 18 5, mM 2 18] .ret) .skip)))) (.reg [bI 19 .add 12 1, mM 12 19]))))))) (sR [oO 2 (.mv (.const (.string ⟨⟨[]⟩⟩)))] .ret))))
theorem kG0 : FnIs prog gQ0 20 dv0 [(.mv (.tmp 2))] := .of (fn := Tryz.f45) Tryz.func45 (by kernel_rfl)
def fJ0 : Cd := sR [bX 4 2 0, bX 7 2 3, mB 8 false] (sR [fA 12 1 4, lD 13 12, mM 14 2, iA 15 5 13 14, lA 16 5 15, oO 9 (.alloc [zI, zI, zI, zI, .nil]), sT 5 9 16] (sR [mC 10 0, mC 11 1] (.seq (sR [fA 17 0 7, lD 18 17] (.blk 0 (sR [bI 20 .eql 18 1, mM 19 20] (cO 19 (.reg [fA 21 0 4, lD 22 21, lN 23 22, mM 11 23]) (.seq (sR [bI 25 .eql 18 2, mM 24 25] (cO 24 .skip (.reg [bI 26 .eql 18 3, mM 24 26]))) (cO 24 (.reg [fA 27 1 9, lD 28 27, mM 11 28]) (.seq (sR [bI 30 .eql 18 4, mM 29 30] (cO 29 .skip (.reg [bI 31 .eql 18 5, mM 29 31]))) (cO 29 (.reg [mM 32 1, mM 11 32]) (.seq (sR [bI 34 .eql 18 7, mM 33 34] (cO 33 .skip (.reg [bI 35 .eql 18 8, mM 33 35]))) (cO 33 (.reg [fA 36 4 9, lD 37 36, lN 38 37, mM 11 38]) (sR [bI 40 .eql 18 9, mM 39 40] (cO 39 (.reg [mM 41 2, mM 11 41]) (sR [bI 43 .eql 18 11, mM 42 43] (cO 42 (.reg [mC 11 1099511627777]) (sR [bI 45 .eql 18 12, mM 44 45] (cO 44 (.reg [mC 10 3, mC 11 14]) .skip)))))))))))))))) (sR [fA 46 0 7, lD 47 46, bI 48 .geq 47 1, mM 49 48, xF 50 49 true 0 7, xD 51 49 true 50, xI 52 49 true .leq 51 21, pF 53 49 52, mM 54 53, xF 55 54 true 1 7, xD 56 54 true 55, xM 57 54 true 10, gO 58 54 true (.bin .geq (tT 56) (tT 57)), pF 59 54 58, mM 60 59, xF 61 60 true 1 7, xD 62 60 true 61, xM 63 60 true 11, gO 64 60 true (.bin .lss (tT 62) (tT 63)), pF 65 60 64, mM 8 65] .ret))))
theorem kH0 : FnIs prog gR0 66 fJ0 [(.mv (.tmp 8))] := .of (fn := Tryz.f46) Tryz.func46 (by kernel_rfl)
def fK0 : Cd := sR [bX 2 2 0, mB 4 false] (sR [fA 16 1 2, lD 17 16, mM 18 1, iA 19 5 17 18, lA 20 5 19, oO 5 (.alloc [zI, zI, zI, zI, .nil]), sT 5 5 20] (sR [fA 21 4 5, lD 22 21, lN 23 22, oO 24 (.mks 3 1 8 [zI] (tT 23) (tT 23)), mM 6 24] (.seq (sR [mM 25 6, lN 26 25, mC 27 0] (.blk 0 (.loop (sR [bB 28 .lss 27 26] (.seq (cO 28 .skip (.exit 0)) (.seq (.blk 1 (sR [mM 29 27, mM 7 29] (.reg [mM 30 6, mM 31 7, iA 32 1 30 31, nO (.st 1 (tT 32) (iC (-1)))]))) (.reg [bI 33 .add 27 1, mM 27 33]))))))) (sR [mM 34 6, oO 35 (.ia 1 (tT 34) (iC 0)), nO (.st 1 (tT 35) (iC 0))] (sR [fA 36 4 5, lD 37 36, lN 38 37, oO 39 (.mks 4 1 1 [.c (.bool false)] (tT 38) (tT 38)), mM 8 39] (.seq (sR [mB 9 true] (.blk 2 (.loop (.seq (sR [mM 40 9] (cO 40 .skip (.exit 2))) (.blk 3 (sR [mB 9 false] (sR [fA 41 4 5, lD 42 41, lN 43 42, mC 44 0] (.blk 4 (.loop (sR [bB 45 .lss 44 43] (.seq (cO 45 .skip (.exit 4)) (.seq (.blk 5 (sR [mM 46 44, iA 47 2 42 44, lA 48 2 47, oO 11 (.alloc [zI, zI]), mM 10 46, sT 2 11 48] (.seq (sR [mM 49 6, mM 50 10, iA 51 1 49 50, lD 52 51, bI 53 .lss 52 0, mM 54 53, xM 55 54 false 8, xM 56 54 false 10, gO 57 54 false (.ia 1 (tT 55) (tT 56)), xD 58 54 false 57, pT 59 54 58] (cO 59 (.exit 5) .skip)) (sR [mM 60 8, mM 61 10, iA 62 1 60 61, nO (.st 1 (tT 62) (bC true))] (sR [mB 9 true] (.seq (.dreg ⟨[(mM 63 6, []), (mM 64 10, []), (iA 65 1 63 64, [0, 1]), (lD 66 65, [0, 1, 2]), (lA 67 2 2, []), (lA 68 2 11, []), (cC 69 49 [tT 67, tT 68], [4, 5])], [bB 70 .sub 66 69, mM 12 70], [0, 1]⟩) (.seq (sR [mM 71 12, bI 72 .lss 71 0] (cO 72 (sR [mB 4 false] .ret) .skip)) (sR [mM 73 12, lA 74 2 11, cC 75 75 [tT 74], bB 76 .add 73 75, mM 12 76] (.seq (sR [mM 77 12, fA 78 3 5, lD 79 78, bB 80 .gtr 77 79] (cO 80 (sR [mB 4 false] .ret) .skip)) (sR [oO 13 (.mv (.const (.slice none 0 0)))] (.seq (sR [fA 81 0 11, lD 82 81, bI 83 .eql 82 7, mM 84 83, xF 85 84 false 0 11, xD 86 84 false 85, xI 87 84 false .eql 86 8, pT 88 84 87] (cO 88 (.reg [mM 89 13, fA 90 1 11, lD 91 90, oO 92 (.mkrow 3 1 [tT 91]), oO 93 (.app 3 1 8 (tT 89) (tT 92)), mM 13 93]) .skip)) (.seq (sR [fA 94 0 11, lD 95 94, bI 96 .neq 95 7, mM 97 96, xF 98 97 true 0 11, xD 99 97 true 98, xI 100 97 true .neq 99 10, pF 101 97 100] (cO 101 (.reg [mM 102 13, mM 103 10, bI 104 .add 103 1, oO 105 (.mkrow 3 1 [tT 104]), oO 106 (.app 3 1 8 (tT 102) (tT 105)), mM 13 106]) .skip)) (sR [mM 107 13, lN 108 107, mC 109 0] (.blk 6 (.loop (sR [bB 110 .lss 109 108] (.seq (cO 110 .skip (.exit 6)) (.seq (.blk 7 (sR [iA 111 1 107 109, lD 112 111, mM 15 112] (.seq (sR [mM 113 15, fA 114 4 5, lD 115 114, lN 116 115, bB 117 .geq 113 116, mM 118 117, xM 119 118 false 6, xM 120 118 false 15, gO 121 118 false (.ia 1 (tT 119) (tT 120)), xD 122 118 false 121, xI 123 118 false .geq 122 0, xM 124 118 false 123, xM 125 124 true 6, xM 126 124 true 15, gO 127 124 true (.ia 1 (tT 125) (tT 126)), xD 128 124 true 127, xM 129 124 true 12, gO 130 124 true (.bin .neq (tT 128) (tT 129)), gO 131 118 false (.pick (tT 124) (tT 130) (bC false)), pT 132 118 131] (cO 132 (sR [mB 4 false] .ret) .skip)) (.reg [mM 133 6, mM 134 15, mM 135 12, iA 136 1 133 134, sT 1 136 135])))) (.reg [bI 137 .add 109 1, mM 109 137]))))))))))))))))))) (.reg [bI 138 .add 44 1, mM 44 138]))))))))))))) (sR [mB 4 true] .ret)))))))
theorem kI0 : FnIs prog gS0 139 fK0 [(.mv (.tmp 4))] := .of (fn := Tryz.f47) Tryz.func47 (by kernel_rfl)
def gG0 : Cd := sR [oO 2 (.alloc [zI, zI, zS, .nil])] (sR [mM 3 0, oO 4 (.build [zI, zI, zS, .nil] [(0, 1, iC 1), (1, 1, tT 3)]), sT 4 2 4] .ret)
theorem lv0 : FnIs prog ey0 5 gG0 [(.lda 4 (.tmp 2))] := .of (fn := Tryz.f48) Tryz.func48 (by kernel_rfl)
def du0 : Cd := sR [bX 2 2 0, bX 3 2 1, mC 4 0] (.seq (sR [fA 5 0 3, lD 6 5] (.blk 0 (.seq (sR [bI 8 .eql 6 3, mM 7 8] (cO 7 .skip (sR [bI 9 .eql 6 5, mM 7 9] (cO 7 .skip (sR [bI 10 .eql 6 6, mM 7 10] (cO 7 .skip (sR [bI 11 .eql 6 8, mM 7 11] (cO 7 .skip (sR [bI 12 .eql 6 10, mM 7 12] (cO 7 .skip (sR [bI 13 .eql 6 13, mM 7 13] (cO 7 .skip (sR [bI 14 .eql 6 14, mM 7 14] (cO 7 .skip (sR [bI 15 .eql 6 15, mM 7 15] (cO 7 .skip (.reg [bI 16 .eql 6 16, mM 7 16]))))))))))))))))) (cO 7 (sR [mC 4 1] .ret) (.seq (sR [bI 18 .eql 6 12, mM 17 18] (cO 17 .skip (sR [bI 19 .eql 6 17, mM 17 19] (cO 17 .skip (sR [bI 20 .eql 6 18, mM 17 20] (cO 17 .skip (sR [bI 21 .eql 6 19, mM 17 21] (cO 17 .skip (.reg [bI 22 .eql 6 21, mM 17 22]))))))))) (cO 17 (sR [mC 4 2] .ret) (sR [bI 24 .eql 6 20, mM 23 24] (cO 23 (sR [mC 4 3] .ret) (sR [bI 26 .eql 6 9, mM 25 26] (cO 25 (sR [fA 27 1 2, lD 28 27, fA 29 1 3, lD 30 29, iA 31 5 28 30, fA 32 0 31, lD 33 32, mM 4 33] .ret) .skip)))))))))) (sR [mC 4 0] .ret))
theorem kF0 : FnIs prog gP0 34 du0 [(.mv (.tmp 4))] := .of (fn := Tryz.f49) Tryz.func49 (by kernel_rfl)
def cW0 : Cd := sR [mM 4 0, nC 5 4, fA 6 4 5, lD 7 6, bI 8 .eql 7 0] (cO 8 (.reg [mM 9 0, mM 10 1, nC 11 9, fA 12 4 11, sT 1 12 10]) .skip)
theorem fC0 : FnIs prog c40 13 cW0 [] := .of (fn := Tryz.f50) Tryz.func50 (by kernel_rfl)
def bj0 : Cd := .seq (sR [mM 4 0, nC 5 4, fA 6 4 5, lD 7 6, bI 8 .eql 7 0, mM 9 8, xM 10 9 true 0, gO 11 9 true (.nchk (tT 10)), xF 12 9 true 3 11, xD 13 9 true 12, xM 14 9 true 1, gO 15 9 true (.bin .lss (tT 13) (tT 14)), pF 16 9 15] (cO 16 (sR [mM 17 0, nC 18 17, fA 19 3 18, nO (.st 1 (tT 19) (iC 0))] (.reg [mM 20 0, cC 21 50 [tT 20, iC 54]])) .skip)) (sR [mM 22 0, nC 23 22, fA 24 4 23, lD 25 24, bI 26 .eql 25 0] (cO 26 (.reg [mM 27 0, mM 28 0, nC 29 28, fA 30 3 29, lD 31 30, mM 32 1, bB 33 .sub 31 32, nC 34 27, fA 35 3 34, sT 1 35 33]) .skip))
theorem bN0 : FnIs prog bn0 36 bj0 [] := .of (fn := Tryz.f51) Tryz.func51 (by kernel_rfl)
def ak0 : Cd := sR [bX 4 2 1, oO 6 (.alloc [zI, zI, zS, .nil])] (sR [oO 13 (.build [zI, zI, zS, .nil] []), oO 7 (.alloc [zI, zI, zS, .nil]), sT 4 7 13] (sR [mC 8 0] (.seq (sR [fA 14 0 4, lD 15 14] (.blk 0 (sR [bI 17 .eql 15 12, mM 16 17] (cO 16 (.dreg ⟨[(fA 19 1 4, []), (lD 20 19, [0]), (mM 21 2, []), (oO 22 (.ia 4 (tT 21) (iC 0)), [2]), (lA 23 4 22, [2, 3]), (mM 24 2, []), (oO 25 (.ia 4 (tT 24) (iC 1)), [5]), (lA 26 4 25, [5, 6]), (cC 27 76 [tT 20, tT 23, tT 26], [0, 1, 2, 3, 4, 5, 6, 7]), (mM 18 27, [0, 1, 2, 3, 4, 5, 6, 7, 8]), (eX 28 18 0, [0, 1, 2, 3, 4, 5, 6, 7, 8, 9]), (eX 29 18 1, [0, 1, 2, 3, 4, 5, 6, 7, 8, 9]), (sT 4 7 28, [0, 1, 2, 3, 4, 5, 6, 7, 8, 9, 10])], [mM 8 29], [0, 2, 5, 9]⟩) (sR [bI 31 .eql 15 13, mM 30 31] (cO 30 (.reg [mM 33 2, oO 34 (.ia 4 (tT 33) (iC 0)), lA 35 4 34, cC 36 77 [tT 35], mM 32 36, eX 37 32 0, eX 38 32 1, sT 4 7 37, mM 8 38]) (sR [bI 40 .eql 15 14, mM 39 40] (cO 39 (.seq (sR [mM 41 2, oO 42 (.ia 4 (tT 41) (iC 0)), fA 43 0 42, lD 44 43, bI 45 .neq 44 2] (cO 45 (.reg [mC 8 40]) .skip)) (.reg [mM 46 2, oO 47 (.ia 4 (tT 46) (iC 0)), fA 48 1 47, lD 49 48, bI 50 .eql 49 0, cC 51 78 [tT 50], sT 4 7 51])) (sR [bI 53 .eql 15 15, mM 52 53] (cO 52 (sR [mM 55 2, oO 56 (.ia 4 (tT 55) (iC 0)), lA 57 4 56, cC 58 79 [tT 57], mM 54 58, eX 59 54 0, eX 60 54 1, mM 9 59, mM 10 60] (sR [mM 61 9, cC 62 48 [tT 61], sT 4 7 62] (.reg [mM 63 10, mM 8 63]))) (sR [bI 65 .eql 15 16, mM 64 65] (cO 64 (.reg [mM 67 2, oO 68 (.ia 4 (tT 67) (iC 0)), lA 69 4 68, cC 70 80 [tT 69], mM 66 70, eX 71 66 0, eX 72 66 1, sT 4 7 71, mM 8 72]) (sR [bI 74 .eql 15 17, mM 73 74] (cO 73 (.seq (sR [mM 75 2, oO 76 (.ia 4 (tT 75) (iC 0)), fA 77 0 76, lD 78 77, bI 79 .neq 78 5] (cO 79 (.reg [mC 8 40]) .skip)) (.seq (.dreg ⟨[(mM 81 2, []), (oO 82 (.ia 4 (tT 81) (iC 0)), [0]), (lA 83 4 82, [0, 1]), (mM 84 2, []), (oO 85 (.ia 4 (tT 84) (iC 1)), [3]), (lA 86 4 85, [3, 4]), (cC 87 81 [tT 83, tT 86], [0, 1, 2, 3, 4, 5]), (mM 80 87, [0, 1, 2, 3, 4, 5, 6]), (eX 88 80 0, [0, 1, 2, 3, 4, 5, 6, 7]), (eX 89 80 1, [0, 1, 2, 3, 4, 5, 6, 7]), (oO 11 (.alloc [zI, zI, zS, .nil]), []), (sT 4 11 88, [0, 1, 2, 3, 4, 5, 6, 7, 8, 10])], [mM 12 89], [0, 3, 7]⟩) (.reg [mM 90 12, bI 91 .eql 90 0, cC 92 78 [tT 91], sT 4 7 92]))) (sR [bI 94 .eql 15 18, mM 93 94] (cO 93 (.dreg ⟨[(mM 96 2, []), (oO 97 (.ia 4 (tT 96) (iC 0)), [0]), (lA 98 4 97, [0, 1]), (mM 99 2, []), (oO 100 (.ia 4 (tT 99) (iC 1)), [3]), (lA 101 4 100, [3, 4]), (cC 102 81 [tT 98, tT 101], [0, 1, 2, 3, 4, 5]), (mM 95 102, [0, 1, 2, 3, 4, 5, 6]), (eX 103 95 0, [0, 1, 2, 3, 4, 5, 6, 7]), (eX 104 95 1, [0, 1, 2, 3, 4, 5, 6, 7]), (sT 4 7 103, [0, 1, 2, 3, 4, 5, 6, 7, 8])], [mM 8 104], [0, 3, 7]⟩) (sR [bI 106 .eql 15 19, mM 105 106] (cO 105 (.dreg ⟨[(mM 108 2, []), (oO 109 (.ia 4 (tT 108) (iC 0)), [0]), (lA 110 4 109, [0, 1]), (mM 111 2, []), (oO 112 (.ia 4 (tT 111) (iC 1)), [3]), (lA 113 4 112, [3, 4]), (cC 114 82 [tT 110, tT 113], [0, 1, 2, 3, 4, 5]), (mM 107 114, [0, 1, 2, 3, 4, 5, 6]), (eX 115 107 0, [0, 1, 2, 3, 4, 5, 6, 7]), (eX 116 107 1, [0, 1, 2, 3, 4, 5, 6, 7]), (sT 4 7 115, [0, 1, 2, 3, 4, 5, 6, 7, 8])], [mM 8 116], [0, 3, 7]⟩) (sR [bI 118 .eql 15 20, mM 117 118] (cO 117 (.dreg ⟨[(mM 120 2, []), (oO 121 (.ia 4 (tT 120) (iC 0)), [0]), (lA 122 4 121, [0, 1]), (mM 123 2, []), (oO 124 (.ia 4 (tT 123) (iC 1)), [3]), (lA 125 4 124, [3, 4]), (mM 126 2, []), (oO 127 (.ia 4 (tT 126) (iC 2)), [6]), (lA 128 4 127, [6, 7]), (cC 129 83 [tT 122, tT 125, tT 128], [0, 1, 2, 3, 4, 5, 6, 7, 8]), (mM 119 129, [0, 1, 2, 3, 4, 5, 6, 7, 8, 9]), (eX 130 119 0, [0, 1, 2, 3, 4, 5, 6, 7, 8, 9, 10]), (eX 131 119 1, [0, 1, 2, 3, 4, 5, 6, 7, 8, 9, 10]), (sT 4 7 130, [0, 1, 2, 3, 4, 5, 6, 7, 8, 9, 10, 11])], [mM 8 131], [0, 3, 6, 10]⟩) (sR [bI 133 .eql 15 21, mM 132 133] (cO 132 (.dreg ⟨[(mM 135 2, []), (oO 136 (.ia 4 (tT 135) (iC 0)), [0]), (lA 137 4 136, [0, 1]), (mM 138 2, []), (oO 139 (.ia 4 (tT 138) (iC 1)), [3]), (lA 140 4 139, [3, 4]), (cC 141 84 [tT 137, tT 140], [0, 1, 2, 3, 4, 5]), (mM 134 141, [0, 1, 2, 3, 4, 5, 6]), (eX 142 134 0, [0, 1, 2, 3, 4, 5, 6, 7]), (eX 143 134 1, [0, 1, 2, 3, 4, 5, 6, 7]), (sT 4 7 142, [0, 1, 2, 3, 4, 5, 6, 7, 8])], [mM 8 143], [0, 3, 7]⟩) .skip)))))))))))))))))))))) (sR [mM 144 0, mM 145 8, cC 146 50 [tT 144, tT 145]] (sR [lA 147 4 7, sT 4 6 147] .ret)))))
theorem an0 : FnIs prog aj0 148 ak0 [(.lda 4 (.tmp 6))] := .of (fn := Tryz.f52) Tryz.func52 (by kernel_rfl)
def aT0 : Cd := sR [mC 4 0] (.seq (sR [mM 6 0, lN 7 6, mC 8 0] (.blk 0 (.loop (sR [bB 9 .lss 8 7] (.seq (cO 9 .skip (.exit 0)) (.seq (.blk 1 (sR [mM 10 8, mM 5 10] (sR [mM 11 1, mM 12 0, mM 13 5, iA 14 4 12 13, lA 15 4 14, oO 16 (.call (tT 11) [tT 15])] (cO 16 (sR [mM 17 5, mM 4 17] .ret) .skip)))) (.reg [bI 18 .add 8 1, mM 8 18]))))))) (sR [mC 4 (-1)] .ret))
theorem bA0 : FnIs prog aV0 19 aT0 [(.mv (.tmp 4))] := .of (fn := Tryz.f53) Tryz.func53 (by kernel_rfl)
def h20 : Cd := sR [bX 2 4 0, bX 3 4 1, mC 4 0] (.seq (.dreg ⟨[(fA 5 0 2, []), (lD 6 5, [0]), (fA 7 0 3, []), (lD 8 7, [2]), (cC 9 86 [tT 6, tT 8], [0, 1, 2, 3]), (fA 10 1 2, []), (lD 11 10, [5]), (fA 12 1 3, []), (lD 13 12, [7]), (cC 14 86 [tT 11, tT 13], [0, 1, 2, 3, 4, 5, 6, 7, 8]), (fA 15 2 2, []), (lD 16 15, [10]), (fA 17 2 3, []), (lD 18 17, [12]), (cC 19 87 [tT 16, tT 18], [0, 1, 2, 3, 4, 5, 6, 7, 8, 9, 10, 11, 12, 13]), (fA 20 3 2, []), (lD 21 20, [15]), (fA 22 3 3, []), (lD 23 22, [17])], [cC 24 88 [tT 21, tT 23, .func 54], oO 25 (.mkrow 3 1 [tT 9, tT 14, tT 19, tT 24]), cC 26 85 [tT 25], mM 4 26], [0, 2, 5, 7, 10, 12, 15, 17]⟩) .ret)
theorem mi0 : FnIs prog fj0 27 h20 [(.mv (.tmp 4))] := .of (fn := Tryz.f54) Tryz.func54 (by kernel_rfl)
def ki0 : Cd := sR [bX 2 4 0, mB 4 false] (sR [mM 5 1, cC 6 89 [tT 5], mM 7 6, xA 8 7 true 4 2, gO 9 7 true (.call (.func 21) [tT 8]), xI 10 7 true .leq 9 16384, pF 11 7 10, mM 12 11, xA 13 12 true 4 2, xM 14 12 true 1, gO 15 12 true (.call (.func 90) [tT 13, tT 14]), pF 16 12 15, mM 4 16] .ret)
theorem po0 : FnIs prog l30 17 ki0 [(.mv (.tmp 4))] := .of (fn := Tryz.f55) Tryz.func55 (by kernel_rfl)
def gh0 : Cd := sR [bX 2 2 0, bX 3 2 1, mC 4 0, mC 5 0] (.seq (sR [fA 6 0 3, lD 7 6] (.blk 0 (.seq (sR [bI 9 .eql 7 1, mM 8 9] (cO 8 .skip (sR [bI 10 .eql 7 2, mM 8 10] (cO 8 .skip (.reg [bI 11 .eql 7 4, mM 8 11]))))) (cO 8 (sR [mC 4 0, mC 5 1] .ret) (.seq (sR [bI 13 .eql 7 3, mM 12 13] (cO 12 .skip (sR [bI 14 .eql 7 5, mM 12 14] (cO 12 .skip (sR [bI 15 .eql 7 6, mM 12 15] (cO 12 .skip (sR [bI 16 .eql 7 8, mM 12 16] (cO 12 .skip (.reg [bI 17 .eql 7 10, mM 12 17]))))))))) (cO 12 (sR [mC 4 1, mC 5 0] .ret) (sR [bI 19 .eql 7 9, mM 18 19] (cO 18 (sR [fA 20 1 2, lD 21 20, fA 22 1 3, lD 23 22, iA 24 5 21 23, fA 25 0 24, lD 26 25, mM 4 26, mC 5 1] .ret) (.seq (sR [bI 28 .eql 7 13, mM 27 28] (cO 27 .skip (sR [bI 29 .eql 7 14, mM 27 29] (cO 27 .skip (sR [bI 30 .eql 7 15, mM 27 30] (cO 27 .skip (.reg [bI 31 .eql 7 16, mM 27 31]))))))) (cO 27 (sR [mC 4 1, mC 5 1] .ret) (.seq (sR [bI 33 .eql 7 12, mM 32 33] (cO 32 .skip (sR [bI 34 .eql 7 17, mM 32 34] (cO 32 .skip (sR [bI 35 .eql 7 18, mM 32 35] (cO 32 .skip (sR [bI 36 .eql 7 19, mM 32 36] (cO 32 .skip (.reg [bI 37 .eql 7 21, mM 32 37]))))))))) (cO 32 (sR [mC 4 2, mC 5 1] .ret) (sR [bI 39 .eql 7 20, mM 38 39] (cO 38 (sR [mC 4 3, mC 5 1] .ret) .skip)))))))))))))) (sR [mC 4 0, mC 5 0] .ret))
theorem n20 : FnIs prog ks0 40 gh0 [(.mv (.tmp 4)), (.mv (.tmp 5))] := .of (fn := Tryz.f56) Tryz.func56 (by kernel_rfl)
def kn0 : Cd := .reg [mM 4 0, mM 5 0, nC 6 5, fA 7 0 6, lD 8 7, nC 9 8, fA 10 0 9, fA 11 0 10, lD 12 11, mM 13 1, iA 14 4 12 13, lA 15 4 14, cC 16 58 [tT 4, tT 15, iC 0]]
theorem pu0 : FnIs prog is0 17 kn0 [] := .of (fn := Tryz.f57) Tryz.func57 (by kernel_rfl)
def et0 : Cd := sR [bX 4 4 1] (sR [mM 6 2, cC 7 91 [tT 6]] (.dreg ⟨[(mM 8 0, []), (nC 9 8, [0]), (fA 10 7 9, [0, 1]), (lD 11 10, [0, 1, 2]), (lA 12 4 4, []), (lN 13 11, [0, 1, 2, 3]), (oO 14 (.mkrow 31 4 [.const (.agg ⟨[.int .i64 0, .int .i64 0, .string ⟨⟨[]⟩⟩, .slice none 0 0]⟩)]), []), (oO 15 (.app 31 4 56 (tT 11) (tT 14)), [0, 1, 2, 3, 4, 5, 6]), (iA 16 4 15 13, [0, 1, 2, 3, 4, 5, 6, 7]), (sT 4 16 12, [0, 1, 2, 3, 4, 5, 6, 7, 8]), (nC 17 8, [0, 1, 2, 3, 4, 5, 6, 7]), (fA 18 7 17, [0, 1, 2, 3, 4, 5, 6, 7, 10]), (sT 1 18 15, [0, 1, 2, 3, 4, 5, 6, 7, 10, 11])], [], [0, 1, 2, 10, 11]⟩))
theorem h90 : FnIs prog fk0 19 et0 [] := .of (fn := Tryz.f58) Tryz.func58 (by kernel_rfl)
def ko0 : Cd := .reg [mM 4 0, mM 5 0, nC 6 5, fA 7 6 6, lD 8 7, mM 9 1, iA 10 4 8 9, lA 11 4 10, cC 12 58 [tT 4, tT 11, iC 0]]
theorem pv0 : FnIs prog it0 13 ko0 [] := .of (fn := Tryz.f59) Tryz.func59 (by kernel_rfl)
def hh0 : Cd := .dreg ⟨[(mM 4 0, []), (nC 5 4, [0]), (fA 6 6 5, [0, 1]), (lD 7 6, [0, 1, 2]), (mM 8 1, []), (mM 9 0, []), (cC 10 42 [tT 9], [5])], [iA 11 4 7 8, sT 4 11 10], [0, 1, 2, 4, 5]⟩
theorem pw0 : FnIs prog iu0 12 hh0 [] := .of (fn := Tryz.f60) Tryz.func60 (by kernel_rfl)
def kp0 : Cd := .reg [mM 4 0, mM 5 0, nC 6 5, fA 7 0 6, lD 8 7, nC 9 8, fA 10 2 9, lD 11 10, mM 12 1, iA 13 4 11 12, lA 14 4 13, cC 15 58 [tT 4, tT 14, iC 0]]
theorem px0 : FnIs prog iv0 16 kp0 [] := .of (fn := Tryz.f61) Tryz.func61 (by kernel_rfl)
def hs0 : Cd := .dreg ⟨[(mM 4 0, []), (nC 5 4, [0]), (fA 6 0 5, [0, 1]), (lD 7 6, [0, 1, 2]), (nC 8 7, [0, 1, 2, 3]), (fA 9 2 8, [0, 1, 2, 3, 4]), (lD 10 9, [0, 1, 2, 3, 4, 5]), (mM 11 1, []), (mM 12 0, []), (cC 13 42 [tT 12], [8])], [iA 14 4 10 11, sT 4 14 13], [0, 1, 2, 4, 5, 7, 8]⟩
theorem py0 : FnIs prog iw0 15 hs0 [] := .of (fn := Tryz.f62) Tryz.func62 (by kernel_rfl)
def kq0 : Cd := .reg [mM 4 0, cC 5 42 [tT 4]]
theorem pz0 : FnIs prog ix0 6 kq0 [] := .of (fn := Tryz.f63) Tryz.func63 (by kernel_rfl)
def es0 : Cd := .seq (sR [mM 4 1, mM 5 0, nC 6 5, fA 7 8 6, lD 8 7, bB 9 .lss 4 8] (cO 9 (.reg [mM 10 0, nC 11 10, fA 12 0 11, lD 13 12, cC 14 69 [tT 13, iC 1]]) .skip)) (.reg [mM 15 0, mM 16 1, nC 17 15, fA 18 8 17, sT 1 18 16])
theorem h80 : FnIs prog cJ0 19 es0 [] := .of (fn := Tryz.f64) Tryz.func64 (by kernel_rfl)
def dw0 : Cd := sR [mM 4 0, cC 5 66 [tT 4], oO 6 (.un .not (tT 5))] (cO 6 (.reg [mM 7 0, mM 8 1, cC 9 64 [tT 7, tT 8]]) .skip)
theorem eV0 : FnIs prog dk0 10 dw0 [] := .of (fn := Tryz.f65) Tryz.func65 (by kernel_rfl)
def dX0 : Cd := sR [mB 2 false] (sR [mM 4 0, cC 5 42 [tT 4], oO 3 (.alloc [zI, zI, zS, .nil]), sT 4 3 5] (.seq (sR [fA 6 0 3, lD 7 6, bI 8 .neq 7 2] (cO 8 (.reg [cC 9 91 [iC 40]]) .skip)) (sR [fA 10 1 3, lD 11 10, bI 12 .eql 11 1, mM 2 12] .ret)))
theorem gX0 : FnIs prog eC0 13 dX0 [(.mv (.tmp 2))] := .of (fn := Tryz.f66) Tryz.func66 (by kernel_rfl)
def cP0 : Cd := sR [mM 6 0, nC 7 6, fA 8 0 7, lD 9 8, cC 10 69 [tT 9, iC 1]] (.seq (.dreg ⟨[(mM 11 0, []), (nC 12 11, [0]), (fA 13 7 12, [0, 1]), (lD 14 13, [0, 1, 2]), (lN 15 14, [0, 1, 2, 3]), (mM 16 0, []), (nC 17 16, [5]), (fA 18 0 17, [5, 6]), (lD 19 18, [5, 6, 7]), (nC 20 19, [5, 6, 7, 8]), (fA 21 0 20, [5, 6, 7, 8, 9]), (fA 22 1 21, [5, 6, 7, 8, 9, 10]), (lD 23 22, [5, 6, 7, 8, 9, 10, 11]), (mM 24 1, []), (iA 25 5 23 24, [5, 6, 7, 8, 9, 10, 11, 12, 13]), (fA 26 0 25, [5, 6, 7, 8, 9, 10, 11, 12, 13, 14]), (lD 27 26, [5, 6, 7, 8, 9, 10, 11, 12, 13, 14, 15])], [bB 28 .sub 15 27, mM 4 28], [0, 1, 2, 5, 6, 7, 9, 10, 11, 13, 15]⟩) (sR [mM 29 0, nC 30 29, fA 31 7 30, lD 32 31, mM 33 4, oO 34 (.slL 4 (tT 32) (some (tT 33)) none), cC 35 44 [tT 34], mM 5 35] (sR [mM 36 0, mM 37 0, nC 38 37, fA 39 7 38, lD 40 39, mM 41 4, oO 42 (.slL 4 (tT 40) none (some (tT 41))), nC 43 36, fA 44 7 43, sT 1 44 42] (.reg [mM 45 0, mM 46 0, nC 47 46, fA 48 0 47, lD 49 48, mM 50 1, mM 51 5, cC 52 29 [tT 49, tT 50, tT 51], cC 53 58 [tT 45, tT 52, iC 0]]))))
theorem eb0 : FnIs prog ct0 54 cP0 [] := .of (fn := Tryz.f67) Tryz.func67 (by kernel_rfl)
def ht0 : Cd := .reg [mM 4 0, nC 5 4, fA 6 0 5, lD 7 6, mM 8 1, cC 9 69 [tT 7, tT 8]]
theorem kN0 : FnIs prog fZ0 10 ht0 [] := .of (fn := Tryz.f68) Tryz.func68 (by kernel_rfl)
def cZ0 : Cd := .seq (sR [mM 4 0, nC 5 4, fA 6 3 5, lD 7 6, mM 8 1, bB 9 .lss 7 8] (cO 9 (sR [mM 10 0, nC 11 10, fA 12 3 11, nO (.st 1 (tT 12) (iC 0))] (.reg [cC 13 91 [iC 54]])) .skip)) (.reg [mM 14 0, nC 15 14, fA 16 3 15, lD 17 16, mM 18 1, bB 19 .sub 17 18, nC 20 14, fA 21 3 20, sT 1 21 19])
theorem eR0 : FnIs prog dc0 22 cZ0 [] := .of (fn := Tryz.f69) Tryz.func69 (by kernel_rfl)
def hu0 : Cd := sR [mM 7 0, cC 8 71 [tT 7], mM 6 8, eX 9 6 0, eX 10 6 1, oO 4 (.alloc [zI, zI, zS, .nil]), oO 5 (.alloc [zI, zI, zS, .nil]), sT 4 4 9, sT 4 5 10] (.reg [mM 11 0, mM 12 1, lA 13 4 4, lA 14 4 5, cC 15 72 [tT 12, tT 13, tT 14], eX 16 15 0, eX 17 15 1, cC 18 58 [tT 11, tT 16, tT 17]])
theorem kO0 : FnIs prog f00 19 hu0 [] := .of (fn := Tryz.f70) Tryz.func70 (by kernel_rfl)
def ik0 : Cd := sR [oO 2 (.alloc [zI, zI, zS, .nil]), oO 3 (.alloc [zI, zI, zS, .nil])] (sR [mM 5 0, cC 6 42 [tT 5], oO 4 (.alloc [zI, zI, zS, .nil]), sT 4 4 6] (.seq (.dreg ⟨[(mM 7 0, []), (cC 8 42 [tT 7], [0]), (lA 9 4 4, []), (sT 4 2 8, [0, 1])], [sT 4 3 9], [0]⟩) .ret))
theorem m70 : FnIs prog jy0 10 ik0 [(.lda 4 (.tmp 2)), (.lda 4 (.tmp 3))] := .of (fn := Tryz.f71) Tryz.func71 (by kernel_rfl)
def bb0 : Cd := sR [bX 4 4 1, bX 5 4 2, oO 6 (.alloc [zI, zI, zS, .nil]), mC 7 0] (.seq (.blk 0 (sR [mM 12 0, bI 13 .eql 12 3, mM 14 13, xM 15 14 false 0, xI 16 14 false .eql 15 4, pT 17 14 16, mM 11 17] (cO 11 (sR [lA 18 4 4, lA 19 4 5, cC 20 54 [tT 18, tT 19], bI 21 .eql 20 0, mM 22 0, bI 23 .eql 22 3, oO 24 (.binb false (tT 21) (tT 23)), cC 25 92 [tT 24], sT 4 6 25, mC 7 0] .ret) (sR [fA 27 0 4, lD 28 27, fA 29 0 5, lD 30 29, bB 31 .neq 28 30, mM 32 31, xF 33 32 false 0 4, xD 34 32 false 33, xI 35 32 false .neq 34 1, xM 36 32 false 35, xF 37 36 true 0 4, xD 38 36 true 37, xI 39 36 true .neq 38 3, gO 40 32 false (.pick (tT 36) (tT 39) (bC false)), pT 41 32 40, mM 26 41] (cO 26 (sR [oO 42 (.build [zI, zI, zS, .nil] []), sT 4 6 42, mC 7 40] .ret) (sR [mM 44 0, bI 45 .geq 44 5, mM 46 45, xM 47 46 true 0, xI 48 46 true .leq 47 8, pF 49 46 48, mM 43 49] (cO 43 (sR [lA 50 4 4, lA 51 4 5, cC 52 54 [tT 50, tT 51], mM 8 52] (sR [mM 53 8, bI 54 .lss 53 0, mM 55 8, bI 56 .leq 55 0, mM 57 8, bI 58 .gtr 57 0, mM 59 8, bI 60 .geq 59 0, oO 61 (.build [.c (.bool false), .c (.bool false), .c (.bool false), .c (.bool false)] [(0, 1, tT 54), (1, 1, tT 56), (2, 1, tT 58), (3, 1, tT 60)]), mM 62 0, bI 63 .sub 62 5, oO 64 (.ixA 4 (tT 61) (tT 63)), cC 65 92 [tT 64], sT 4 6 65, mC 7 0] .ret)) (sR [fA 67 0 4, lD 68 67, bI 69 .eql 68 3, mM 70 69, xM 71 70 true 0, xI 72 70 true .eql 71 9, pF 73 70 72, mM 66 73] (cO 66 (.seq (sR [fA 74 2 4, lD 75 74, lS 76 75, fA 77 2 5, lD 78 77, lS 79 78, bB 80 .add 76 79, bI 81 .gtr 80 256] (cO 81 (sR [oO 82 (.build [zI, zI, zS, .nil] []), sT 4 6 82, mC 7 53] .ret) .skip)) (sR [fA 83 2 4, lD 84 83, fA 85 2 5, lD 86 85, bB 87 .add 84 86, cC 88 93 [tT 87], sT 4 6 88, mC 7 0] .ret)) (sR [fA 90 0 4, lD 91 90, bI 92 .eql 91 3, mM 93 92, xM 94 93 false 0, xI 95 93 false .lss 94 9, pT 96 93 95, mM 97 96, xM 98 97 false 0, xI 99 97 false .gtr 98 13, pT 100 97 99, mM 89 100] (cO 89 (sR [oO 101 (.build [zI, zI, zS, .nil] []), sT 4 6 101, mC 7 40] .ret) .skip))))))))))) (sR [mM 103 0, fA 104 1 4, lD 105 104, fA 106 1 5, lD 107 106, cC 108 94 [tT 103, tT 105, tT 107], mM 102 108, eX 109 102 0, eX 110 102 1, mM 9 109, mM 10 110] (.seq (sR [mM 111 10, bI 112 .neq 111 0] (cO 112 (sR [oO 113 (.build [zI, zI, zS, .nil] []), mM 114 10, sT 4 6 113, mM 7 114] .ret) .skip)) (sR [mM 115 9, cC 116 41 [tT 115], sT 4 6 116, mC 7 0] .ret))))
theorem pm0 : FnIs prog fX0 117 bb0 [(.lda 4 (.tmp 6)), (.mv (.tmp 7))] := .of (fn := Tryz.f72) Tryz.func72 (by kernel_rfl)
def bO0 : Cd := sR [oO 2 (.mv (.const .nilFunc))] (.seq (sR [mM 3 0] (.blk 0 (sR [bI 5 .eql 3 13, mM 4 5] (cO 4 (sR [oO 2 (.mv (.func 95))] .ret) (sR [bI 7 .eql 3 14, mM 6 7] (cO 6 (sR [oO 2 (.mv (.func 97))] .ret) (sR [bI 9 .eql 3 15, mM 8 9] (cO 8 (sR [oO 2 (.mv (.func 98))] .ret) (sR [bI 11 .eql 3 16, mM 10 11] (cO 10 (sR [oO 2 (.mv (.func 100))] .ret) (sR [bI 13 .eql 3 17, mM 12 13] (cO 12 (sR [oO 2 (.mv (.func 102))] .ret) (sR [bI 15 .eql 3 18, mM 14 15] (cO 14 (sR [oO 2 (.mv (.func 104))] .ret) (sR [bI 17 .eql 3 19, mM 16 17] (cO 16 (sR [oO 2 (.mv (.func 106))] .ret) (sR [bI 19 .eql 3 20, mM 18 19] (cO 18 (sR [oO 2 (.mv (.func 108))] .ret) (sR [bI 21 .eql 3 21, mM 20 21] (cO 20 (sR [oO 2 (.mv (.func 110))] .ret) .skip)))))))))))))))))))) (sR [oO 2 (.mv (.const .nilFunc))] .ret))
theorem b30 : FnIs prog b80 22 bO0 [(.mv (.tmp 2))] := .of (fn := Tryz.f73) Tryz.func73 (by kernel_rfl)
def fG0 : Cd := sR [bX 2 4 0, mB 4 false] (sR [mM 5 1, cC 6 112 [tT 5], mM 7 6, xA 8 7 true 4 2, gO 9 7 true (.call (.func 23) [tT 8]), xI 10 7 true .leq 9 16384, pF 11 7 10, mM 12 11, xA 13 12 true 4 2, xM 14 12 true 1, gO 15 12 true (.call (.func 113) [tT 13, tT 14]), pF 16 12 15, mM 4 16] .ret)
theorem kA0 : FnIs prog gM0 17 fG0 [(.mv (.tmp 4))] := .of (fn := Tryz.f74) Tryz.func74 (by kernel_rfl)
def eJ0 : Cd := sR [bX 1 2 0, mC 2 0] (.seq (sR [fA 3 0 1, lD 4 3] (.blk 0 (.seq (sR [bI 6 .eql 4 1, mM 5 6] (cO 5 .skip (sR [bI 7 .eql 4 2, mM 5 7] (cO 5 .skip (sR [bI 8 .eql 4 4, mM 5 8] (cO 5 .skip (sR [bI 9 .eql 4 9, mM 5 9] (cO 5 .skip (sR [bI 10 .eql 4 12, mM 5 10] (cO 5 .skip (sR [bI 11 .eql 4 13, mM 5 11] (cO 5 .skip (sR [bI 12 .eql 4 14, mM 5 12] (cO 5 .skip (sR [bI 13 .eql 4 15, mM 5 13] (cO 5 .skip (sR [bI 14 .eql 4 16, mM 5 14] (cO 5 .skip (sR [bI 15 .eql 4 17, mM 5 15] (cO 5 .skip (sR [bI 16 .eql 4 18, mM 5 16] (cO 5 .skip (sR [bI 17 .eql 4 19, mM 5 17] (cO 5 .skip (sR [bI 18 .eql 4 20, mM 5 18] (cO 5 .skip (.reg [bI 19 .eql 4 21, mM 5 19]))))))))))))))))))))))))))) (cO 5 (sR [mC 2 1] .ret) .skip)))) (sR [mC 2 0] .ret))
theorem jk0 : FnIs prog ff0 20 eJ0 [(.mv (.tmp 2))] := .of (fn := Tryz.f75) Tryz.func75 (by kernel_rfl)
def ah0 : Cd := sR [bX 4 4 1, bX 5 4 2, oO 6 (.alloc [zI, zI, zS, .nil]), mC 7 0] (.seq (sR [mM 11 0, bI 12 .eql 11 3] (cO 12 (sR [lA 13 4 4, lA 14 4 5, cC 15 15 [tT 13, tT 14], cC 16 78 [tT 15], sT 4 6 16, mC 7 0] .ret) .skip)) (.seq (sR [mM 17 0, bI 18 .eql 17 4] (cO 18 (sR [lA 19 4 4, lA 20 4 5, cC 21 15 [tT 19, tT 20], oO 22 (.un .not (tT 21)), cC 23 78 [tT 22], sT 4 6 23, mC 7 0] .ret) .skip)) (.seq (sR [fA 24 0 4, lD 25 24, fA 26 0 5, lD 27 26, bB 28 .neq 25 27, mM 29 28, xF 30 29 false 0 4, xD 31 29 false 30, xI 32 29 false .neq 31 1, xM 33 29 false 32, xF 34 33 true 0 4, xD 35 33 true 34, xI 36 33 true .neq 35 3, gO 37 29 false (.pick (tT 33) (tT 36) (bC false)), pT 38 29 37, mM 39 38, xM 40 39 false 0, xI 41 39 false .lss 40 3, pT 42 39 41, mM 43 42, xM 44 43 false 0, xI 45 43 false .gtr 44 13, pT 46 43 45] (cO 46 (sR [oO 47 (.build [zI, zI, zS, .nil] []), sT 4 6 47, mC 7 40] .ret) .skip)) (sR [lA 48 4 4, lA 49 4 5, cC 50 33 [tT 48, tT 49], mM 8 50] (.seq (sR [mM 51 0] (.blk 0 (sR [bI 53 .eql 51 5, mM 52 53] (cO 52 (sR [mM 54 8, bI 55 .lss 54 0, cC 56 78 [tT 55], sT 4 6 56, mC 7 0] .ret) (sR [bI 58 .eql 51 6, mM 57 58] (cO 57 (sR [mM 59 8, bI 60 .leq 59 0, cC 61 78 [tT 60], sT 4 6 61, mC 7 0] .ret) (sR [bI 63 .eql 51 7, mM 62 63] (cO 62 (sR [mM 64 8, bI 65 .gtr 64 0, cC 66 78 [tT 65], sT 4 6 66, mC 7 0] .ret) (sR [bI 68 .eql 51 8, mM 67 68] (cO 67 (sR [mM 69 8, bI 70 .geq 69 0, cC 71 78 [tT 70], sT 4 6 71, mC 7 0] .ret) .skip)))))))))) (.seq (sR [fA 72 0 4, lD 73 72, bI 74 .eql 73 3] (cO 74 (.seq (sR [mM 75 0, bI 76 .neq 75 9] (cO 76 (sR [oO 77 (.build [zI, zI, zS, .nil] []), sT 4 6 77, mC 7 40] .ret) .skip)) (.seq (sR [fA 78 2 4, lD 79 78, lS 80 79, fA 81 2 5, lD 82 81, lS 83 82, bB 84 .add 80 83, bI 85 .gtr 84 256] (cO 85 (sR [oO 86 (.build [zI, zI, zS, .nil] []), sT 4 6 86, mC 7 53] .ret) .skip)) (sR [fA 87 2 4, lD 88 87, fA 89 2 5, lD 90 89, bB 91 .add 88 90, oO 92 (.build [zI, zI, zS, .nil] [(0, 1, iC 3), (2, 1, tT 91)]), sT 4 6 92, mC 7 0] .ret))) .skip)) (sR [mC 9 0, mC 10 0] (.seq (sR [mM 93 0] (.blk 1 (sR [bI 122 .eql 93 9, mM 121 122] (cO 121 (.reg [fA 124 1 4, lD 125 124, fA 126 1 5, lD 127 126, cC 128 114 [tT 125, tT 127], mM 123 128, eX 129 123 0, eX 130 123 1, mM 9 129, mM 10 130]) (sR [bI 132 .eql 93 10, mM 131 132] (cO 131 (sR [fA 133 1 5, lD 134 133, bI 135 .eql 134 (-9223372036854775808)] (cO 135 (sR [fA 136 1 4, lD 137 136, bI 138 .geq 137 0] (cO 138 (.reg [mC 10 50]) (.reg [fA 139 1 4, lD 140 139, bI 141 .add 140 9223372036854775807, bI 142 .add 141 1, mM 9 142]))) (.reg [fA 144 1 4, lD 145 144, fA 146 1 5, lD 147 146, oO 148 (.un .neg (tT 147)), cC 149 114 [tT 145, tT 148], mM 143 149, eX 150 143 0, eX 151 143 1, mM 9 150, mM 10 151]))) (sR [bI 153 .eql 93 11, mM 152 153] (cO 152 (.reg [fA 155 1 4, lD 156 155, fA 157 1 5, lD 158 157, cC 159 115 [tT 156, tT 158], mM 154 159, eX 160 154 0, eX 161 154 1, mM 9 160, mM 10 161]) (.seq (sR [fA 94 1 5, lD 95 94, bI 96 .eql 95 0] (cO 96 (sR [oO 97 (.build [zI, zI, zS, .nil] []), sT 4 6 97, mC 7 51] .ret) .skip)) (sR [mM 98 0, bI 99 .eql 98 13] (cO 99 (sR [fA 100 1 5, lD 101 100, bI 102 .neq 101 (-1)] (cO 102 (.reg [fA 103 1 4, lD 104 103, fA 105 1 5, lD 106 105, bB 107 .rem 104 106, mM 9 107]) .skip)) (sR [fA 108 1 4, lD 109 108, bI 110 .eql 109 (-9223372036854775808), mM 111 110, xF 112 111 true 1 5, xD 113 111 true 112, xI 114 111 true .eql 113 (-1), pF 115 111 114] (cO 115 (.reg [mC 10 50]) (.reg [fA 116 1 4, lD 117 116, fA 118 1 5, lD 119 118, bB 120 .quo 117 119, mM 9 120])))))))))))))) (.seq (sR [mM 162 10, bI 163 .neq 162 0] (cO 163 (sR [oO 164 (.build [zI, zI, zS, .nil] []), mM 165 10, sT 4 6 164, mM 7 165] .ret) .skip)) (sR [mM 166 9, cC 167 48 [tT 166], sT 4 6 167, mC 7 0] .ret))))))))))
theorem a00 : FnIs prog cp0 168 ah0 [(.lda 4 (.tmp 6)), (.mv (.tmp 7))] := .of (fn := Tryz.f76) Tryz.func76 (by kernel_rfl)
def cN0 : Cd := sR [bX 1 4 0, oO 2 (.alloc [zI, zI, zS, .nil]), mC 3 0] (.seq (sR [fA 4 0 1, lD 5 4, bI 6 .neq 5 1] (cO 6 (sR [oO 7 (.build [zI, zI, zS, .nil] []), sT 4 2 7, mC 3 40] .ret) .skip)) (.seq (sR [fA 8 1 1, lD 9 8, bI 10 .eql 9 (-9223372036854775808)] (cO 10 (sR [oO 11 (.build [zI, zI, zS, .nil] []), sT 4 2 11, mC 3 50] .ret) .skip)) (sR [fA 12 1 1, lD 13 12, oO 14 (.un .neg (tT 13)), cC 15 48 [tT 14], sT 4 2 15, mC 3 0] .ret)))
theorem lw0 : FnIs prog ez0 16 cN0 [(.lda 4 (.tmp 2)), (.mv (.tmp 3))] := .of (fn := Tryz.f77) Tryz.func77 (by kernel_rfl)
def fI0 : Cd := sR [oO 2 (.alloc [zI, zI, zS, .nil])] (.seq (sR [mM 3 0] (cO 3 (sR [oO 4 (.build [zI, zI, zS, .nil] [(0, 1, iC 2), (1, 1, iC 1)]), sT 4 2 4] .ret) .skip)) (sR [oO 5 (.build [zI, zI, zS, .nil] [(0, 1, iC 2)]), sT 4 2 5] .ret))
theorem kE0 : FnIs prog gO0 6 fI0 [(.lda 4 (.tmp 2))] := .of (fn := Tryz.f78) Tryz.func78 (by kernel_rfl)
def gD0 : Cd := sR [bX 1 4 0, mC 2 0, mC 3 0] (.seq (sR [fA 4 0 1, lD 5 4, bI 6 .eql 5 3] (cO 6 (sR [fA 7 2 1, lD 8 7, lS 9 8, mM 2 9, mC 3 0] .ret) .skip)) (.seq (sR [fA 10 0 1, lD 11 10, bI 12 .eql 11 4] (cO 12 (sR [fA 13 3 1, lD 14 13, lN 15 14, mM 2 15, mC 3 0] .ret) .skip)) (.seq (sR [fA 16 0 1, lD 17 16, bI 18 .eql 17 5] (cO 18 (sR [fA 19 3 1, lD 20 19, lN 21 20, bI 22 .quo 21 2, mM 2 22, mC 3 0] .ret) .skip)) (sR [mC 2 0, mC 3 40] .ret))))
theorem ls0 : FnIs prog ew0 23 gD0 [(.mv (.tmp 2)), (.mv (.tmp 3))] := .of (fn := Tryz.f79) Tryz.func79 (by kernel_rfl)
def dV0 : Cd := sR [bX 1 4 0, oO 2 (.alloc [zI, zI, zS, .nil]), mC 3 0] (.seq (sR [fA 4 0 1, lD 5 4, bI 6 .neq 5 1] (cO 6 (sR [oO 7 (.build [zI, zI, zS, .nil] []), sT 4 2 7, mC 3 40] .ret) .skip)) (sR [fA 8 1 1, lD 9 8, cC 10 116 [tT 9], oO 11 (.build [zI, zI, zS, .nil] [(0, 1, iC 3), (2, 1, tT 10)]), sT 4 2 11, mC 3 0] .ret))
theorem lx0 : FnIs prog eA0 12 dV0 [(.lda 4 (.tmp 2)), (.mv (.tmp 3))] := .of (fn := Tryz.f80) Tryz.func80 (by kernel_rfl)
def bJ0 : Cd := sR [bX 2 4 0, bX 3 4 1, oO 4 (.alloc [zI, zI, zS, .nil]), mC 5 0] (sR [mC 6 (-1)] (.seq (sR [fA 7 0 2, lD 8 7, bI 9 .eql 8 4, mM 10 9, xF 11 10 true 0 3, xD 12 10 true 11, xI 13 10 true .eql 12 1, pF 14 10 13] (cO 14 (sR [fA 15 1 3, lD 16 15, bI 17 .geq 16 0, mM 18 17, xF 19 18 true 1 3, xD 20 18 true 19, xF 21 18 true 3 2, xD 22 18 true 21, xL 23 18 true 22, gO 24 18 true (.bin .lss (tT 20) (tT 23)), pF 25 18 24] (cO 25 (.reg [fA 26 1 3, lD 27 26, mM 6 27]) .skip)) (sR [fA 28 0 2, lD 29 28, bI 30 .eql 29 5] (cO 30 (sR [lA 31 4 2, lA 32 4 3, cC 33 117 [tT 31, tT 32], mM 6 33] (sR [mM 34 6, bI 35 .geq 34 0] (cO 35 (.reg [mM 36 6, bI 37 .add 36 1, mM 6 37]) .skip))) (sR [oO 38 (.build [zI, zI, zS, .nil] []), sT 4 4 38, mC 5 40] .ret))))) (.seq (sR [mM 39 6, bI 40 .lss 39 0] (cO 40 (sR [oO 41 (.build [zI, zI, zS, .nil] []), sT 4 4 41, mC 5 52] .ret) .skip)) (sR [fA 42 3 2, lD 43 42, mM 44 6, iA 45 4 43 44, lA 46 4 45, cC 47 17 [tT 46], sT 4 4 47, mC 5 0] .ret))))
theorem mh0 : FnIs prog cI0 48 bJ0 [(.lda 4 (.tmp 4)), (.mv (.tmp 5))] := .of (fn := Tryz.f81) Tryz.func81 (by kernel_rfl)
def cC0 : Cd := sR [bX 2 4 0, bX 3 4 1, oO 4 (.alloc [zI, zI, zS, .nil]), mC 5 0] (.seq (sR [fA 7 0 2, lD 8 7, bI 9 .neq 8 4] (cO 9 (sR [oO 10 (.build [zI, zI, zS, .nil] []), sT 4 4 10, mC 5 40] .ret) .skip)) (.seq (sR [fA 11 3 2, lD 12 11, lN 13 12, bI 14 .geq 13 64] (cO 14 (sR [oO 15 (.build [zI, zI, zS, .nil] []), sT 4 4 15, mC 5 53] .ret) .skip)) (sR [lA 16 4 2, cC 17 17 [tT 16], oO 6 (.alloc [zI, zI, zS, .nil]), sT 4 6 17] (.seq (.dreg ⟨[(fA 18 3 6, []), (lD 19 18, [0]), (lA 20 4 3, []), (cC 21 17 [tT 20], [2]), (oO 22 (.mkrow 31 4 [tT 21]), [2, 3])], [oO 23 (.app 31 4 56 (tT 19) (tT 22)), fA 24 3 6, sT 1 24 23], [0]⟩) (sR [lA 25 4 6, cC 26 118 [tT 25], eX 27 26 0, eX 28 26 1, sT 4 4 27, mM 5 28] .ret)))))
theorem kB0 : FnIs prog d00 29 cC0 [(.lda 4 (.tmp 4)), (.mv (.tmp 5))] := .of (fn := Tryz.f82) Tryz.func82 (by kernel_rfl)
end Go.Am
end

section
set_option maxRecDepth 100000
namespace Go.Am
open Go.Proofs
def gF0 : Cd := sR [bX 3 4 0, bX 4 4 1, bX 5 4 2, oO 6 (.alloc [zI, zI, zS, .nil]), mC 7 0] (sR [lA 12 4 3, cC 13 17 [tT 12], oO 8 (.alloc [zI, zI, zS, .nil]), sT 4 8 13] (.seq (sR [fA 14 0 3, lD 15 14, bI 16 .eql 15 4, mM 17 16, xF 18 17 true 0 4, xD 19 17 true 18, xI 20 17 true .eql 19 1, pF 21 17 20] (cO 21 (.seq (sR [fA 22 1 4, lD 23 22, bI 24 .lss 23 0, mM 25 24, xF 26 25 false 1 4, xD 27 25 false 26, xF 28 25 false 3 3, xD 29 25 false 28, xL 30 25 false 29, gO 31 25 false (.bin .geq (tT 27) (tT 30)), pT 32 25 31] (cO 32 (sR [oO 33 (.build [zI, zI, zS, .nil] []), sT 4 6 33, mC 7 52] .ret) .skip)) (.seq (.dreg ⟨[(fA 34 3 8, []), (lD 35 34, [0]), (fA 36 1 4, []), (lD 37 36, [2]), (lA 38 4 5, []), (cC 39 17 [tT 38], [4])], [iA 40 4 35 37, sT 4 40 39], [0, 2]⟩) (sR [lA 41 4 8, cC 42 118 [tT 41], eX 43 42 0, eX 44 42 1, sT 4 6 43, mM 7 44] .ret))) .skip)) (.seq (sR [fA 45 0 3, lD 46 45, bI 47 .neq 46 5] (cO 47 (sR [oO 48 (.build [zI, zI, zS, .nil] []), sT 4 6 48, mC 7 40] .ret) .skip)) (sR [lA 49 4 3, lA 50 4 4, cC 51 117 [tT 49, tT 50], mM 9 51] (.seq (sR [mM 52 9, bI 53 .geq 52 0] (cO 53 (.seq (.dreg ⟨[(fA 54 3 8, []), (lD 55 54, [0]), (mM 56 9, []), (bI 57 .add 56 1, [2]), (lA 58 4 5, []), (cC 59 17 [tT 58], [4])], [iA 60 4 55 57, sT 4 60 59], [0, 2]⟩) (sR [lA 61 4 8, cC 62 118 [tT 61], eX 63 62 0, eX 64 62 1, sT 4 6 63, mM 7 64] .ret)) .skip)) (.seq (sR [fA 65 3 3, lD 66 65, lN 67 66, bI 68 .geq 67 128] (cO 68 (sR [oO 69 (.build [zI, zI, zS, .nil] []), sT 4 6 69, mC 7 53] .ret) .skip)) (sR [fA 70 3 8, nO (.st 1 (tT 70) (.const (.slice none 0 0)))] (sR [mB 10 false] (.seq (sR [mC 11 0] (.blk 0 (.loop (.seq (sR [mM 71 11, bI 72 .add 71 1, fA 73 3 3, lD 74 73, lN 75 74, bB 76 .lss 72 75] (cO 76 .skip (.exit 0))) (.seq (.blk 1 (.seq (.seq (.dreg ⟨[(mM 79 10, []), (oO 80 (.un .not (tT 79)), [0]), (mM 81 80, [0, 1]), (xA 82 81 true 4 4, [0, 1, 2]), (xF 83 81 true 3 3, [0, 1, 2]), (xD 84 81 true 83, [0, 1, 2, 4]), (xM 85 81 true 11, [0, 1, 2]), (gO 86 81 true (.ia 4 (tT 84) (tT 85)), [0, 1, 2, 4, 5, 6]), (xA 87 81 true 4 86, [0, 1, 2, 4, 5, 6, 7])], [gO 88 81 true (.call (.func 33) [tT 82, tT 87]), xI 89 81 true .lss 88 0, pF 90 81 89], [0, 2]⟩) (cO 90 (.seq (.dreg ⟨[(fA 91 3 8, []), (lD 92 91, [0]), (lA 93 4 4, []), (cC 94 17 [tT 93], [2]), (lA 95 4 5, []), (cC 96 17 [tT 95], [2, 3, 4]), (oO 97 (.mkrow 31 4 [tT 94, tT 96]), [2, 3, 4, 5])], [oO 98 (.app 31 4 56 (tT 92) (tT 97)), fA 99 3 8, sT 1 99 98], [0]⟩) (.reg [mB 10 true])) .skip)) (.dreg ⟨[(fA 100 3 8, []), (lD 101 100, [0]), (fA 102 3 3, []), (lD 103 102, [2]), (mM 104 11, []), (iA 105 4 103 104, [2, 3, 4]), (lA 106 4 105, [2, 3, 4, 5]), (cC 107 17 [tT 106], [2, 3, 4, 5, 6]), (fA 108 3 3, []), (lD 109 108, [8]), (mM 110 11, []), (bI 111 .add 110 1, [10]), (iA 112 4 109 111, [8, 9, 10, 11]), (lA 113 4 112, [8, 9, 10, 11, 12]), (cC 114 17 [tT 113], [2, 3, 4, 5, 6, 7, 8, 9, 10, 11, 12, 13]), (oO 115 (.mkrow 31 4 [tT 107, tT 114]), [2, 3, 4, 5, 6, 7, 8, 9, 10, 11, 12, 13, 14])], [oO 116 (.app 31 4 56 (tT 101) (tT 115)), fA 117 3 8, sT 1 117 116], [0, 2, 4, 8, 10]⟩))) (.reg [mM 77 11, bI 78 .add 77 2, mM 11 78])))))) (.seq (sR [mM 118 10, oO 119 (.un .not (tT 118))] (cO 119 (.dreg ⟨[(fA 120 3 8, []), (lD 121 120, [0]), (lA 122 4 4, []), (cC 123 17 [tT 122], [2]), (lA 124 4 5, []), (cC 125 17 [tT 124], [2, 3, 4]), (oO 126 (.mkrow 31 4 [tT 123, tT 125]), [2, 3, 4, 5])], [oO 127 (.app 31 4 56 (tT 121) (tT 126)), fA 128 3 8, sT 1 128 127], [0]⟩) .skip)) (sR [lA 129 4 8, cC 130 118 [tT 129], eX 131 130 0, eX 132 130 1, sT 4 6 131, mM 7 132] .ret)))))))))))
theorem lu0 : FnIs prog ex0 133 gF0 [(.lda 4 (.tmp 6)), (.mv (.tmp 7))] := .of (fn := Tryz.f83) Tryz.func83 (by kernel_rfl)
def dU0 : Cd := sR [bX 2 4 0, bX 3 4 1, oO 4 (.alloc [zI, zI, zS, .nil]), mC 5 0] (.seq (sR [fA 8 0 2, lD 9 8, bI 10 .neq 9 5] (cO 10 (sR [oO 11 (.build [zI, zI, zS, .nil] []), sT 4 4 11, mC 5 40] .ret) .skip)) (sR [fA 12 0 2, lD 13 12, fA 14 1 2, lD 15 14, fA 16 2 2, lD 17 16, oO 18 (.build [zI, zI, zS, .nil] [(0, 1, tT 13), (1, 1, tT 15), (2, 1, tT 17)]), oO 6 (.alloc [zI, zI, zS, .nil]), sT 4 6 18] (.seq (sR [mC 7 0] (.blk 0 (.loop (.seq (sR [mM 19 7, bI 20 .add 19 1, fA 21 3 2, lD 22 21, lN 23 22, bB 24 .lss 20 23] (cO 24 .skip (.exit 0))) (.seq (.blk 1 (.seq (.dreg ⟨[(fA 27 3 2, []), (lD 28 27, [0]), (mM 29 7, []), (iA 30 4 28 29, [0, 1, 2]), (lA 31 4 30, [0, 1, 2, 3]), (lA 32 4 3, [])], [cC 33 15 [tT 31, tT 32], oO 34 (.un .not (tT 33))], [0, 2]⟩) (cO 34 (.dreg ⟨[(fA 35 3 6, []), (lD 36 35, [0]), (fA 37 3 2, []), (lD 38 37, [2]), (mM 39 7, []), (iA 40 4 38 39, [2, 3, 4]), (lA 41 4 40, [2, 3, 4, 5]), (cC 42 17 [tT 41], [2, 3, 4, 5, 6]), (fA 43 3 2, []), (lD 44 43, [8]), (mM 45 7, []), (bI 46 .add 45 1, [10]), (iA 47 4 44 46, [8, 9, 10, 11]), (lA 48 4 47, [8, 9, 10, 11, 12]), (cC 49 17 [tT 48], [2, 3, 4, 5, 6, 7, 8, 9, 10, 11, 12, 13]), (oO 50 (.mkrow 31 4 [tT 42, tT 49]), [2, 3, 4, 5, 6, 7, 8, 9, 10, 11, 12, 13, 14])], [oO 51 (.app 31 4 56 (tT 36) (tT 50)), fA 52 3 6, sT 1 52 51], [0, 2, 4, 8, 10]⟩) .skip))) (.reg [mM 25 7, bI 26 .add 25 2, mM 7 26])))))) (sR [lA 53 4 6, sT 4 4 53, mC 5 0] .ret))))
theorem lr0 : FnIs prog ev0 54 dU0 [(.lda 4 (.tmp 4)), (.mv (.tmp 5))] := .of (fn := Tryz.f84) Tryz.func84 (by kernel_rfl)
def kf0 : Cd := sR [mC 2 0] (sR [mC 3 0] (.seq (sR [mM 6 0, lN 7 6, mC 8 0] (.blk 0 (.loop (sR [bB 9 .lss 8 7] (.seq (cO 9 .skip (.exit 0)) (.seq (.blk 1 (sR [iA 10 1 6 8, lD 11 10, mM 5 11] (sR [mM 12 5, mM 13 3, bB 14 .neq 12 13] (cO 14 (sR [mM 15 5, mM 2 15] .ret) .skip)))) (.reg [bI 16 .add 8 1, mM 8 16]))))))) (sR [mM 17 3, mM 2 17] .ret)))
theorem pk0 : FnIs prog lZ0 18 kf0 [(.mv (.tmp 2))] := .of (fn := Tryz.f85) Tryz.func85 (by kernel_rfl)
def fE0 : Cd := sR [mC 4 0] (sR [mM 7 0, cC 8 119 [tT 7], mM 5 8] (sR [mM 9 1, cC 10 119 [tT 9], mM 6 10] (.seq (sR [mM 11 5] (cO 11 (.seq (sR [mM 12 6] (cO 12 (sR [mC 4 0] .ret) .skip)) (sR [mC 4 (-1)] .ret)) .skip)) (.seq (sR [mM 13 6] (cO 13 (sR [mC 4 1] .ret) .skip)) (.seq (sR [mM 14 0, mM 15 1, bB 16 .lss 14 15] (cO 16 (sR [mC 4 (-1)] .ret) .skip)) (.seq (sR [mM 17 0, mM 18 1, bB 19 .gtr 17 18] (cO 19 (sR [mC 4 1] .ret) .skip)) (sR [mC 4 0] .ret)))))))
theorem ky0 : FnIs prog gK0 20 fE0 [(.mv (.tmp 4))] := .of (fn := Tryz.f86) Tryz.func86 (by kernel_rfl)
def fM0 : Cd := sR [mC 4 0] (sR [mM 5 0, mM 6 1, cC 7 120 [tT 5, tT 6], mM 4 7] .ret)
theorem kJ0 : FnIs prog gT0 8 fM0 [(.mv (.tmp 4))] := .of (fn := Tryz.f87) Tryz.func87 (by kernel_rfl)
def aG0 : Cd := sR [mC 6 0] (.seq (sR [mM 11 0, lN 12 11, mC 13 0] (.blk 0 (.loop (sR [bB 14 .lss 13 12] (.seq (cO 14 .skip (.exit 0)) (.seq (.blk 1 (sR [mM 15 13, iA 16 4 11 13, lA 17 4 16, oO 8 (.alloc [zI, zI, zS, .nil]), mM 7 15, sT 4 8 17] (.seq (sR [mM 18 7, mM 19 1, lN 20 19, bB 21 .geq 18 20] (cO 21 (sR [mC 6 1] .ret) .skip)) (sR [mM 22 1, mM 23 7, iA 24 4 22 23, lA 25 4 24, oO 9 (.alloc [zI, zI, zS, .nil]), sT 4 9 25] (sR [mM 26 2, lA 27 4 8, lA 28 4 9, oO 29 (.call (tT 26) [tT 27, tT 28]), mM 10 29] (sR [mM 30 10, bI 31 .neq 30 0] (cO 31 (sR [mM 32 10, mM 6 32] .ret) .skip))))))) (.reg [bI 33 .add 13 1, mM 13 33]))))))) (.seq (sR [mM 34 0, lN 35 34, mM 36 1, lN 37 36, bB 38 .lss 35 37] (cO 38 (sR [mC 6 (-1)] .ret) .skip)) (sR [mC 6 0] .ret)))
theorem bs0 : FnIs prog aJ0 39 aG0 [(.mv (.tmp 6))] := .of (fn := Tryz.f88) Tryz.func88 (by kernel_rfl)
def lP0 : Cd := sR [mB 2 false] (sR [mM 3 0, cC 4 121 [tT 3, iC 1], mM 2 4] .ret)
theorem qA0 : FnIs prog mP0 5 lP0 [(.mv (.tmp 2))] := .of (fn := Tryz.f89) Tryz.func89 (by kernel_rfl)
def cO0 : Cd := sR [bX 2 4 0, mB 4 false] (.seq (.blk 0 (sR [mM 12 1, oO 13 (.bin .eql (tT 12) (.const (.string ⟨⟨[105, 110, 116]⟩⟩))), mM 11 13] (cO 11 (sR [fA 14 0 2, lD 15 14, bI 16 .eql 15 1, mM 17 16, xF 18 17 true 2 2, xD 19 17 true 18, gO 20 17 true (.bin .eql (tT 19) (.const (.string ⟨⟨[]⟩⟩))), pF 21 17 20, mM 22 21, xF 23 22 true 3 2, xD 24 22 true 23, xL 25 22 true 24, xI 26 22 true .eql 25 0, pF 27 22 26, mM 4 27] .ret) (sR [mM 29 1, oO 30 (.bin .eql (tT 29) (.const (.string ⟨⟨[98, 111, 111, 108]⟩⟩))), mM 28 30] (cO 28 (sR [fA 31 0 2, lD 32 31, bI 33 .eql 32 2, mM 34 33, xF 35 34 true 1 2, xD 36 34 true 35, xI 37 34 true .eql 36 0, xM 38 34 true 37, xF 39 38 false 1 2, xD 40 38 false 39, xI 41 38 false .eql 40 1, gO 42 34 true (.pick (tT 38) (bC true) (tT 41)), pF 43 34 42, mM 44 43, xF 45 44 true 2 2, xD 46 44 true 45, gO 47 44 true (.bin .eql (tT 46) (.const (.string ⟨⟨[]⟩⟩))), pF 48 44 47, mM 49 48, xF 50 49 true 3 2, xD 51 49 true 50, xL 52 49 true 51, xI 53 49 true .eql 52 0, pF 54 49 53, mM 4 54] .ret) (sR [fA 56 1 2, lD 57 56, bI 58 .neq 57 0, mM 59 58, xM 60 59 false 1, gO 61 59 false (.bin .neq (tT 60) (.const (.string ⟨⟨[116, 101, 120, 116]⟩⟩))), xM 62 59 false 61, xF 63 62 true 2 2, xD 64 62 true 63, gO 65 62 true (.bin .neq (tT 64) (.const (.string ⟨⟨[]⟩⟩))), gO 66 59 false (.pick (tT 62) (tT 65) (bC false)), pT 67 59 66, mM 55 67] (cO 55 (sR [mB 4 false] .ret) (sR [mM 69 1, oO 70 (.bin .eql (tT 69) (.const (.string ⟨⟨[116, 101, 120, 116]⟩⟩))), mM 68 70] (cO 68 (sR [fA 71 0 2, lD 72 71, bI 73 .eql 72 3, mM 74 73, xF 75 74 true 2 2, xD 76 74 true 75, gO 77 74 true (.lenS (tT 76)), xI 78 74 true .leq 77 256, pF 79 74 78, mM 80 79, xF 81 80 true 3 2, xD 82 80 true 81, xL 83 80 true 82, xI 84 80 true .eql 83 0, pF 85 80 84, mM 4 85] .ret) .skip))))))))) (.seq (sR [mM 87 1, cC 88 122 [tT 87], mM 86 88, eX 89 86 0, eX 90 86 1, oO 5 (.alloc [zS]), sT 1 5 89, mM 6 90] (sR [mM 91 6] (cO 91 (sR [fA 92 0 2, lD 93 92, bI 94 .eql 93 4, mM 95 94, xF 96 95 true 3 2, xD 97 95 true 96, xL 98 95 true 97, xI 99 95 true .leq 98 64, pF 100 95 99, mM 101 100, xF 102 101 true 3 2, xD 103 101 true 102, gO 104 101 true (.mkfn 123 [tT 5]), gO 105 101 true (.call (.func 34) [tT 103, tT 104]), gO 106 101 true (.un .not (tT 105)), pF 107 101 106, mM 4 107] .ret) .skip))) (sR [mM 109 1, cC 110 124 [tT 109], mM 108 110, eX 111 108 0, eX 112 108 1, eX 113 108 2, mM 7 111, mM 8 112, mM 9 113] (.seq (sR [fA 114 0 2, lD 115 114, bI 116 .neq 115 5, mM 117 116, xF 118 117 false 3 2, xD 119 117 false 118, xL 120 117 false 119, xI 121 117 false .rem 120 2, xI 122 117 false .neq 121 0, pT 123 117 122, mM 124 123, xF 125 124 false 3 2, xD 126 124 false 125, xL 127 124 false 126, xI 128 124 false .gtr 127 128, pT 129 124 128] (cO 129 (sR [mB 4 false] .ret) .skip)) (.seq (sR [mC 10 0] (.blk 1 (.loop (.seq (sR [mM 130 10, fA 131 3 2, lD 132 131, lN 133 132, bB 134 .lss 130 133] (cO 134 .skip (.exit 1))) (.seq (.blk 2 (.seq (.dreg ⟨[(fA 137 3 2, []), (lD 138 137, [0]), (mM 139 10, []), (iA 140 4 138 139, [0, 1, 2]), (lA 141 4 140, [0, 1, 2, 3]), (mM 142 7, []), (cC 143 90 [tT 141, tT 142], [0, 1, 2, 3, 4, 5]), (oO 144 (.un .not (tT 143)), [0, 1, 2, 3, 4, 5, 6]), (mM 145 144, [0, 1, 2, 3, 4, 5, 6, 7]), (xF 146 145 false 3 2, [0, 1, 2, 3, 4, 5, 6, 7, 8]), (xD 147 145 false 146, [0, 1, 2, 3, 4, 5, 6, 7, 8, 9]), (xM 148 145 false 10, [0, 1, 2, 3, 4, 5, 6, 7, 8]), (xI 149 145 false .add 148 1, [0, 1, 2, 3, 4, 5, 6, 7, 8, 11]), (gO 150 145 false (.ia 4 (tT 147) (tT 149)), [0, 1, 2, 3, 4, 5, 6, 7, 8, 9, 10, 11, 12]), (xA 151 145 false 4 150, [0, 1, 2, 3, 4, 5, 6, 7, 8, 9, 10, 11, 12, 13]), (xM 152 145 false 8, [0, 1, 2, 3, 4, 5, 6, 7, 8]), (gO 153 145 false (.call (.func 90) [tT 151, tT 152]), [0, 1, 2, 3, 4, 5, 6, 7, 8, 9, 10, 11, 12, 13, 14, 15]), (gO 154 145 false (.un .not (tT 153)), [0, 1, 2, 3, 4, 5, 6, 7, 8, 9, 10, 11, 12, 13, 14, 15, 16]), (pT 155 145 154, [0, 1, 2, 3, 4, 5, 6, 7, 8, 9, 10, 11, 12, 13, 14, 15, 16, 17]), (mM 156 155, [0, 1, 2, 3, 4, 5, 6, 7, 8, 9, 10, 11, 12, 13, 14, 15, 16, 17, 18]), (xM 157 156 false 10, [0, 1, 2, 3, 4, 5, 6, 7, 8, 9, 10, 11, 12, 13, 14, 15, 16, 17, 18, 19]), (xI 158 156 false .gtr 157 0, [0, 1, 2, 3, 4, 5, 6, 7, 8, 9, 10, 11, 12, 13, 14, 15, 16, 17, 18, 19, 20]), (xM 159 156 false 158, [0, 1, 2, 3, 4, 5, 6, 7, 8, 9, 10, 11, 12, 13, 14, 15, 16, 17, 18, 19, 20, 21]), (xF 160 159 true 3 2, [0, 1, 2, 3, 4, 5, 6, 7, 8, 9, 10, 11, 12, 13, 14, 15, 16, 17, 18, 19, 20, 21, 22]), (xD 161 159 true 160, [0, 1, 2, 3, 4, 5, 6, 7, 8, 9, 10, 11, 12, 13, 14, 15, 16, 17, 18, 19, 20, 21, 22, 23]), (xM 162 159 true 10, [0, 1, 2, 3, 4, 5, 6, 7, 8, 9, 10, 11, 12, 13, 14, 15, 16, 17, 18, 19, 20, 21, 22]), (xI 163 159 true .sub 162 2, [0, 1, 2, 3, 4, 5, 6, 7, 8, 9, 10, 11, 12, 13, 14, 15, 16, 17, 18, 19, 20, 21, 22, 25]), (gO 164 159 true (.ia 4 (tT 161) (tT 163)), [0, 1, 2, 3, 4, 5, 6, 7, 8, 9, 10, 11, 12, 13, 14, 15, 16, 17, 18, 19, 20, 21, 22, 23, 24, 25, 26]), (xA 165 159 true 4 164, [0, 1, 2, 3, 4, 5, 6, 7, 8, 9, 10, 11, 12, 13, 14, 15, 16, 17, 18, 19, 20, 21, 22, 23, 24, 25, 26, 27]), (xF 166 159 true 3 2, [0, 1, 2, 3, 4, 5, 6, 7, 8, 9, 10, 11, 12, 13, 14, 15, 16, 17, 18, 19, 20, 21, 22]), (xD 167 159 true 166, [0, 1, 2, 3, 4, 5, 6, 7, 8, 9, 10, 11, 12, 13, 14, 15, 16, 17, 18, 19, 20, 21, 22, 29]), (xM 168 159 true 10, [0, 1, 2, 3, 4, 5, 6, 7, 8, 9, 10, 11, 12, 13, 14, 15, 16, 17, 18, 19, 20, 21, 22]), (gO 169 159 true (.ia 4 (tT 167) (tT 168)), [0, 1, 2, 3, 4, 5, 6, 7, 8, 9, 10, 11, 12, 13, 14, 15, 16, 17, 18, 19, 20, 21, 22, 29, 30, 31]), (xA 170 159 true 4 169, [0, 1, 2, 3, 4, 5, 6, 7, 8, 9, 10, 11, 12, 13, 14, 15, 16, 17, 18, 19, 20, 21, 22, 29, 30, 31, 32])], [gO 171 159 true (.call (.func 54) [tT 165, tT 170]), xI 172 159 true .geq 171 0, gO 173 156 false (.pick (tT 159) (tT 172) (bC false)), pT 174 156 173], [0, 2, 5, 8, 19]⟩) (cO 174 (sR [mB 4 false] .ret) .skip))) (.reg [mM 135 10, bI 136 .add 135 2, mM 10 136])))))) (sR [mB 4 true] .ret))))))
theorem ps0 : FnIs prog l60 175 cO0 [(.mv (.tmp 4))] := .of (fn := Tryz.f90) Tryz.func90 (by kernel_rfl)
def lj0 : Cd := sR [mM 2 0, bI 3 .neq 2 0] (cO 3 (.reg [mM 4 0, oO 5 (.build [zI] [(0, 1, tT 4)]), oO 6 (.mkif 62 (tT 5)), nO (.pan (tT 6))]) .skip)
theorem oR0 : FnIs prog mS0 7 lj0 [] := .of (fn := Tryz.f91) Tryz.func91 (by kernel_rfl)
def kh0 : Cd := sR [oO 2 (.alloc [zI, zI, zS, .nil])] (.seq (sR [mM 3 0] (cO 3 (sR [oO 4 (.build [zI, zI, zS, .nil] [(0, 1, iC 2), (1, 1, iC 1)]), sT 4 2 4] .ret) .skip)) (sR [oO 5 (.build [zI, zI, zS, .nil] [(0, 1, iC 2)]), sT 4 2 5] .ret))
theorem pn0 : FnIs prog l20 6 kh0 [(.lda 4 (.tmp 2))] := .of (fn := Tryz.f92) Tryz.func92 (by kernel_rfl)
def kk0 : Cd := sR [oO 2 (.alloc [zI, zI, zS, .nil])] (sR [mM 3 0, oO 4 (.build [zI, zI, zS, .nil] [(0, 1, iC 3), (2, 1, tT 3)]), sT 4 2 4] .ret)
theorem pq0 : FnIs prog l40 5 kk0 [(.lda 4 (.tmp 2))] := .of (fn := Tryz.f93) Tryz.func93 (by kernel_rfl)
def ar0 : Cd := sR [mC 6 0, mC 7 0] (.seq (sR [mM 11 0] (.blk 0 (sR [bI 45 .eql 11 9, mM 44 45] (cO 44 (sR [mM 46 1, mM 47 2, bB 48 .add 46 47, mM 8 48] (sR [mM 49 8, mM 50 1, bB 51 .gtr 49 50, mM 52 2, bI 53 .gtr 52 0, oO 54 (.binb false (tT 51) (tT 53))] (cO 54 (sR [mM 55 8, mM 6 55, mC 7 0] .ret) .skip))) (sR [bI 57 .eql 11 10, mM 56 57] (cO 56 (sR [mM 58 1, mM 59 2, bB 60 .sub 58 59, mM 9 60] (sR [mM 61 9, mM 62 1, bB 63 .lss 61 62, mM 64 2, bI 65 .gtr 64 0, oO 66 (.binb false (tT 63) (tT 65))] (cO 66 (sR [mM 67 9, mM 6 67, mC 7 0] .ret) .skip))) (sR [bI 69 .eql 11 11, mM 68 69] (cO 68 (.seq (sR [mM 70 1, bI 71 .eql 70 0, mM 72 71, xM 73 72 false 2, xI 74 72 false .eql 73 0, pT 75 72 74] (cO 75 (sR [mC 6 0, mC 7 0] .ret) .skip)) (sR [mM 76 1, mM 77 2, bB 78 .mul 76 77, mM 10 78] (sR [mM 79 10, mM 80 2, bB 81 .quo 79 80, mM 82 1, bB 83 .eql 81 82, mM 84 83, xM 85 84 true 10, xI 86 84 true .lss 85 0, xM 87 84 true 1, xI 88 84 true .lss 87 0, xM 89 84 true 2, xI 90 84 true .lss 89 0, gO 91 84 true (.binb true (tT 88) (tT 90)), gO 92 84 true (.binb false (tT 86) (tT 91)), pF 93 84 92] (cO 93 (sR [mM 94 10, mM 6 94, mC 7 0] .ret) .skip)))) (.blk 1 (sR [mM 13 2, bI 14 .eql 13 0, mM 12 14] (cO 12 (sR [mC 6 0, mC 7 51] .ret) (sR [mM 16 0, bI 17 .eql 16 13, mM 18 17, xM 19 18 true 2, xI 20 18 true .eql 19 (-1), pF 21 18 20, mM 15 21] (cO 15 (sR [mC 6 0, mC 7 0] .ret) (sR [mM 23 0, bI 24 .eql 23 13, mM 22 24] (cO 22 (sR [mM 25 1, mM 26 2, bB 27 .rem 25 26, mM 6 27, mC 7 0] .ret) (sR [mM 29 2, bI 30 .neq 29 (-1), mM 31 30, xM 32 31 false 1, xM 33 31 false 1, gO 34 31 false (.un .neg (tT 33)), gO 35 31 false (.bin .neq (tT 32) (tT 34)), pT 36 31 35, mM 37 36, xM 38 37 false 1, xI 39 37 false .eql 38 0, pT 40 37 39, mM 28 40] (cO 28 (sR [mM 41 1, mM 42 2, bB 43 .quo 41 42, mM 6 43, mC 7 0] .ret) .skip))))))))))))))))) (sR [mC 6 0, mC 7 50] .ret))
theorem bz0 : FnIs prog bc0 95 ar0 [(.mv (.tmp 6)), (.mv (.tmp 7))] := .of (fn := Tryz.f94) Tryz.func94 (by kernel_rfl)
def gi0 : Cd := .reg [mM 4 0, mM 5 0, cC 6 42 [tT 5], cC 7 96 [tT 6], eX 8 7 0, eX 9 7 1, cC 10 58 [tT 4, tT 8, tT 9]]
theorem jz0 : FnIs prog dA0 11 gi0 [] := .of (fn := Tryz.f95) Tryz.func95 (by kernel_rfl)
def gH0 : Cd := sR [bX 1 4 0, oO 2 (.alloc [zI, zI, zS, .nil]), mC 3 0] (.seq (.blk 0 (sR [fA 5 0 1, lD 6 5, bI 7 .neq 6 1, mM 4 7] (cO 4 (sR [oO 8 (.build [zI, zI, zS, .nil] []), sT 4 2 8, mC 3 40] .ret) (sR [fA 10 1 1, lD 11 10, fA 12 1 1, lD 13 12, oO 14 (.un .neg (tT 13)), bB 15 .eql 11 14, mM 16 15, xF 17 16 true 1 1, xD 18 16 true 17, xI 19 16 true .neq 18 0, pF 20 16 19, mM 9 20] (cO 9 (sR [oO 21 (.build [zI, zI, zS, .nil] []), sT 4 2 21, mC 3 50] .ret) .skip))))) (sR [fA 22 1 1, lD 23 22, oO 24 (.un .neg (tT 23)), cC 25 41 [tT 24], sT 4 2 25, mC 3 0] .ret))
theorem sU0 : FnIs prog kt0 26 gH0 [(.lda 4 (.tmp 2)), (.mv (.tmp 3))] := .of (fn := Tryz.f96) Tryz.func96 (by kernel_rfl)
def gj0 : Cd := .reg [mM 4 0, mM 5 0, cC 6 66 [tT 5], oO 7 (.un .not (tT 6)), cC 8 92 [tT 7], cC 9 58 [tT 4, tT 8, iC 0]]
theorem jA0 : FnIs prog dB0 10 gj0 [] := .of (fn := Tryz.f97) Tryz.func97 (by kernel_rfl)
def gk0 : Cd := sR [mM 7 0, cC 8 42 [tT 7], cC 9 99 [tT 8], mM 6 9, eX 10 6 0, eX 11 6 1, mM 4 10, mM 5 11] (.reg [mM 12 0, mM 13 4, cC 14 41 [tT 13], mM 15 5, cC 16 58 [tT 12, tT 14, tT 15]])
theorem jB0 : FnIs prog dC0 17 gk0 [] := .of (fn := Tryz.f98) Tryz.func98 (by kernel_rfl)
def lT0 : Cd := sR [bX 1 4 0, mC 2 0, mC 3 0] (.seq (sR [fA 4 0 1, lD 5 4] (.blk 0 (sR [bI 7 .eql 5 3, mM 6 7] (cO 6 (sR [fA 8 2 1, lD 9 8, lS 10 9, mM 2 10, mC 3 0] .ret) (sR [bI 12 .eql 5 4, mM 11 12] (cO 11 (sR [fA 13 3 1, lD 14 13, lN 15 14, mM 2 15, mC 3 0] .ret) (sR [bI 17 .eql 5 5, mM 16 17] (cO 16 (sR [fA 18 3 1, lD 19 18, lN 20 19, bI 21 .quo 20 2, mM 2 21, mC 3 0] .ret) .skip)))))))) (sR [mC 2 0, mC 3 40] .ret))
theorem qE0 : FnIs prog hF0 22 lT0 [(.mv (.tmp 2)), (.mv (.tmp 3))] := .of (fn := Tryz.f99) Tryz.func99 (by kernel_rfl)
def gl0 : Cd := .reg [mM 4 0, mM 5 0, cC 6 42 [tT 5], cC 7 101 [tT 6], eX 8 7 0, eX 9 7 1, cC 10 58 [tT 4, tT 8, tT 9]]
theorem jC0 : FnIs prog dD0 11 gl0 [] := .of (fn := Tryz.f100) Tryz.func100 (by kernel_rfl)
def li0 : Cd := sR [bX 1 4 0, oO 2 (.alloc [zI, zI, zS, .nil]), mC 3 0] (.seq (sR [fA 4 0 1, lD 5 4, bI 6 .neq 5 1] (cO 6 (sR [oO 7 (.build [zI, zI, zS, .nil] []), sT 4 2 7, mC 3 40] .ret) .skip)) (sR [fA 8 1 1, lD 9 8, cC 10 116 [tT 9], cC 11 93 [tT 10], sT 4 2 11, mC 3 0] .ret))
theorem sV0 : FnIs prog ku0 12 li0 [(.lda 4 (.tmp 2)), (.mv (.tmp 3))] := .of (fn := Tryz.f101) Tryz.func101 (by kernel_rfl)
def gm0 : Cd := sR [mM 7 0, cC 8 71 [tT 7], eX 9 8 0, eX 10 8 1, cC 11 103 [tT 9, tT 10], mM 6 11, eX 12 6 0, eX 13 6 1, mM 4 12, mM 5 13] (.reg [mM 14 0, mM 15 4, cC 16 92 [tT 15], mM 17 5, cC 18 58 [tT 14, tT 16, tT 17]])
theorem jD0 : FnIs prog dE0 19 gm0 [] := .of (fn := Tryz.f102) Tryz.func102 (by kernel_rfl)
def lR0 : Cd := sR [bX 2 4 0, bX 3 4 1, mB 4 false, mC 5 0] (.seq (sR [fA 8 0 2, lD 9 8, bI 10 .neq 9 5] (cO 10 (sR [mB 4 false, mC 5 40] .ret) .skip)) (sR [lA 12 4 2, lA 13 4 3, cC 14 125 [tT 12, tT 13], mM 11 14, eX 15 11 0, eX 16 11 1, mM 6 15, mM 7 16] (sR [mM 17 7, mM 4 17, mC 5 0] .ret)))
theorem qC0 : FnIs prog hE0 18 lR0 [(.mv (.tmp 4)), (.mv (.tmp 5))] := .of (fn := Tryz.f103) Tryz.func103 (by kernel_rfl)
def gn0 : Cd := .reg [mM 4 0, mM 5 0, cC 6 71 [tT 5], eX 7 6 0, eX 8 6 1, cC 9 105 [tT 7, tT 8], eX 10 9 0, eX 11 9 1, cC 12 58 [tT 4, tT 10, tT 11]]
theorem jE0 : FnIs prog dF0 13 gn0 [] := .of (fn := Tryz.f104) Tryz.func104 (by kernel_rfl)
def mC0 : Cd := sR [bX 2 4 0, bX 3 4 1, oO 4 (.alloc [zI, zI, zS, .nil]), mC 5 0] (.seq (.blk 0 (sR [fA 9 0 2, lD 10 9, bI 11 .eql 10 4, mM 12 11, xF 13 12 true 0 3, xD 14 12 true 13, xI 15 12 true .eql 14 1, pF 16 12 15, mM 8 16] (cO 8 (.seq (sR [fA 17 1 3, lD 18 17, bI 19 .lss 18 0, mM 20 19, xF 21 20 false 1 3, xD 22 20 false 21, xF 23 20 false 3 2, xD 24 20 false 23, xL 25 20 false 24, gO 26 20 false (.bin .geq (tT 22) (tT 25)), pT 27 20 26] (cO 27 (sR [oO 28 (.build [zI, zI, zS, .nil] []), sT 4 4 28, mC 5 52] .ret) .skip)) (sR [fA 29 3 2, lD 30 29, fA 31 1 3, lD 32 31, iA 33 4 30 32, lA 34 4 33, cC 35 30 [tT 34], sT 4 4 35, mC 5 0] .ret)) (sR [fA 37 0 2, lD 38 37, bI 39 .eql 38 5, mM 36 39] (cO 36 (sR [lA 41 4 2, lA 42 4 3, cC 43 125 [tT 41, tT 42], mM 40 43, eX 44 40 0, eX 45 40 1, mM 6 44, mM 7 45] (.seq (sR [mM 46 7, oO 47 (.un .not (tT 46))] (cO 47 (sR [oO 48 (.build [zI, zI, zS, .nil] []), sT 4 4 48, mC 5 52] .ret) .skip)) (sR [fA 49 3 2, lD 50 49, mM 51 6, bI 52 .add 51 1, iA 53 4 50 52, lA 54 4 53, cC 55 30 [tT 54], sT 4 4 55, mC 5 0] .ret))) .skip))))) (sR [oO 56 (.build [zI, zI, zS, .nil] []), sT 4 4 56, mC 5 40] .ret))
theorem rv0 : FnIs prog iY0 57 mC0 [(.lda 4 (.tmp 4)), (.mv (.tmp 5))] := .of (fn := Tryz.f105) Tryz.func105 (by kernel_rfl)
def go0 : Cd := .reg [mM 4 0, mM 5 0, cC 6 71 [tT 5], eX 7 6 0, eX 8 6 1, cC 9 107 [tT 7, tT 8], eX 10 9 0, eX 11 9 1, cC 12 58 [tT 4, tT 10, tT 11]]
theorem jF0 : FnIs prog dG0 13 go0 [] := .of (fn := Tryz.f106) Tryz.func106 (by kernel_rfl)
def kj0 : Cd := sR [bX 2 4 0, bX 3 4 1, oO 4 (.alloc [zI, zI, zS, .nil]), mC 5 0] (.seq (sR [fA 7 0 2, lD 8 7, bI 9 .neq 8 4] (cO 9 (sR [oO 10 (.build [zI, zI, zS, .nil] []), sT 4 4 10, mC 5 40] .ret) .skip)) (.seq (sR [fA 11 3 2, lD 12 11, lN 13 12, bI 14 .geq 13 64] (cO 14 (sR [oO 15 (.build [zI, zI, zS, .nil] []), sT 4 4 15, mC 5 53] .ret) .skip)) (sR [lA 16 4 2, cC 17 30 [tT 16], oO 6 (.alloc [zI, zI, zS, .nil]), sT 4 6 17] (.seq (.dreg ⟨[(fA 18 3 6, []), (lD 19 18, [0]), (lA 20 4 3, []), (cC 21 30 [tT 20], [2]), (oO 22 (.mkrow 31 4 [tT 21]), [2, 3])], [oO 23 (.app 31 4 56 (tT 19) (tT 22)), fA 24 3 6, sT 1 24 23], [0]⟩) (sR [lA 25 4 6, cC 26 126 [tT 25], eX 27 26 0, eX 28 26 1, sT 4 4 27, mM 5 28] .ret)))))
theorem pp0 : FnIs prog fY0 29 kj0 [(.lda 4 (.tmp 4)), (.mv (.tmp 5))] := .of (fn := Tryz.f107) Tryz.func107 (by kernel_rfl)
def gp0 : Cd := sR [mM 7 0, cC 8 42 [tT 7], oO 4 (.alloc [zI, zI, zS, .nil]), sT 4 4 8] (sR [mM 10 0, cC 11 71 [tT 10], mM 9 11, eX 12 9 0, eX 13 9 1, oO 5 (.alloc [zI, zI, zS, .nil]), oO 6 (.alloc [zI, zI, zS, .nil]), sT 4 5 12, sT 4 6 13] (.reg [mM 14 0, lA 15 4 5, lA 16 4 6, lA 17 4 4, cC 18 109 [tT 15, tT 16, tT 17], eX 19 18 0, eX 20 18 1, cC 21 58 [tT 14, tT 19, tT 20]]))
theorem jG0 : FnIs prog dH0 22 gp0 [] := .of (fn := Tryz.f108) Tryz.func108 (by kernel_rfl)
def lV0 : Cd := sR [bX 3 4 0, bX 4 4 1, bX 5 4 2, oO 6 (.alloc [zI, zI, zS, .nil]), mC 7 0] (sR [lA 11 4 3, cC 12 30 [tT 11], oO 8 (.alloc [zI, zI, zS, .nil]), sT 4 8 12] (.seq (.blk 0 (sR [fA 15 0 3, lD 16 15, bI 17 .eql 16 4, mM 18 17, xF 19 18 true 0 4, xD 20 18 true 19, xI 21 18 true .eql 20 1, pF 22 18 21, mM 14 22] (cO 14 (.seq (sR [fA 23 1 4, lD 24 23, bI 25 .lss 24 0, mM 26 25, xF 27 26 false 1 4, xD 28 26 false 27, xF 29 26 false 3 3, xD 30 26 false 29, xL 31 26 false 30, gO 32 26 false (.bin .geq (tT 28) (tT 31)), pT 33 26 32] (cO 33 (sR [oO 34 (.build [zI, zI, zS, .nil] []), sT 4 6 34, mC 7 52] .ret) .skip)) (.dreg ⟨[(fA 35 3 8, []), (lD 36 35, [0]), (fA 37 1 4, []), (lD 38 37, [2]), (lA 39 4 5, []), (cC 40 30 [tT 39], [4])], [iA 41 4 36 38, sT 4 41 40], [0, 2]⟩)) (sR [fA 43 0 3, lD 44 43, bI 45 .eql 44 5, mM 42 45] (cO 42 (sR [lA 47 4 3, lA 48 4 4, cC 49 125 [tT 47, tT 48], mM 46 49, eX 50 46 0, eX 51 46 1, mM 9 50, mM 10 51] (.blk 1 (sR [mM 63 10, mM 62 63] (cO 62 (.dreg ⟨[(fA 64 3 8, []), (lD 65 64, [0]), (mM 66 9, []), (bI 67 .add 66 1, [2]), (lA 68 4 5, []), (cC 69 30 [tT 68], [4])], [iA 70 4 65 67, sT 4 70 69], [0, 2]⟩) (sR [fA 72 3 3, lD 73 72, lN 74 73, bI 75 .geq 74 128, mM 71 75] (cO 71 (sR [oO 76 (.build [zI, zI, zS, .nil] []), sT 4 6 76, mC 7 53] .ret) (.dreg ⟨[(fA 52 3 8, []), (lD 53 52, [0]), (mM 54 9, []), (lA 55 4 4, []), (cC 56 30 [tT 55], [3]), (lA 57 4 5, []), (cC 58 30 [tT 57], [3, 4, 5]), (oO 59 (.mkrow 31 4 [tT 56, tT 58]), [3, 4, 5, 6])], [cC 60 127 [tT 53, tT 54, tT 59], fA 61 3 8, sT 1 61 60], [0, 2]⟩))))))) (sR [oO 13 (.build [zI, zI, zS, .nil] []), sT 4 6 13, mC 7 40] .ret)))))) (sR [lA 77 4 8, cC 78 126 [tT 77], eX 79 78 0, eX 80 78 1, sT 4 6 79, mM 7 80] .ret)))
theorem qG0 : FnIs prog hG0 81 lV0 [(.lda 4 (.tmp 6)), (.mv (.tmp 7))] := .of (fn := Tryz.f109) Tryz.func109 (by kernel_rfl)
def gq0 : Cd := .reg [mM 4 0, mM 5 0, cC 6 71 [tT 5], eX 7 6 0, eX 8 6 1, cC 9 111 [tT 7, tT 8], eX 10 9 0, eX 11 9 1, cC 12 58 [tT 4, tT 10, tT 11]]
theorem jH0 : FnIs prog dI0 13 gq0 [] := .of (fn := Tryz.f110) Tryz.func110 (by kernel_rfl)
def lQ0 : Cd := sR [bX 2 4 0, bX 3 4 1, oO 4 (.alloc [zI, zI, zS, .nil]), mC 5 0] (.seq (sR [fA 9 0 2, lD 10 9, bI 11 .neq 10 5] (cO 11 (sR [oO 12 (.build [zI, zI, zS, .nil] []), sT 4 4 12, mC 5 40] .ret) .skip)) (sR [lA 13 4 2, cC 14 30 [tT 13], oO 6 (.alloc [zI, zI, zS, .nil]), sT 4 6 14] (.seq (sR [lA 16 4 2, lA 17 4 3, cC 18 125 [tT 16, tT 17], mM 15 18, eX 19 15 0, eX 20 15 1, mM 7 19, mM 8 20] (sR [mM 21 8] (cO 21 (.reg [fA 22 3 6, lD 23 22, mM 24 7, mM 25 7, bI 26 .add 25 2, cC 27 128 [tT 23, tT 24, tT 26], fA 28 3 6, sT 1 28 27]) .skip))) (sR [lA 29 4 6, sT 4 4 29, mC 5 0] .ret))))
theorem qB0 : FnIs prog hD0 30 lQ0 [(.lda 4 (.tmp 4)), (.mv (.tmp 5))] := .of (fn := Tryz.f111) Tryz.func111 (by kernel_rfl)
def fF0 : Cd := sR [mB 2 false] (sR [mM 4 0, cC 5 129 [tT 4], mM 3 5] (sR [mM 6 3, bI 7 .geq 6 1, mM 8 7, xM 9 8 true 3, xI 10 8 true .leq 9 4, pF 11 8 10, mM 2 11] .ret))
theorem kz0 : FnIs prog gL0 12 fF0 [(.mv (.tmp 2))] := .of (fn := Tryz.f112) Tryz.func112 (by kernel_rfl)
def bu0 : Cd := sR [bX 2 4 0, mB 4 false] (.seq (.seq (.dreg ⟨[(fA 12 0 2, []), (lD 13 12, [0]), (bI 14 .eql 13 0, [0, 1]), (mM 15 14, [0, 1, 2]), (xF 16 15 false 0 2, [0, 1, 2, 3]), (xD 17 15 false 16, [0, 1, 2, 3, 4]), (xM 18 15 false 1, [0, 1, 2, 3]), (gO 19 15 false (.call (.func 130) [tT 18]), [0, 1, 2, 3, 6]), (gO 20 15 false (.fld 0 (tT 19)), [0, 1, 2, 3, 6, 7])], [gO 21 15 false (.bin .neq (tT 17) (tT 20)), pT 22 15 21], [0, 3]⟩) (cO 22 (sR [mB 4 false] .ret) .skip)) (.seq (sR [fA 23 0 2, lD 24 23, bI 25 .gtr 24 2, mM 26 25, xF 27 26 true 1 2, xD 28 26 true 27, xI 29 26 true .neq 28 0, pF 30 26 29, mM 31 30, xF 32 31 false 0 2, xD 33 31 false 32, xI 34 31 false .neq 33 3, xM 35 31 false 34, xF 36 35 true 2 2, xD 37 35 true 36, gO 38 35 true (.bin .neq (tT 37) (.const (.string ⟨⟨[]⟩⟩))), gO 39 31 false (.pick (tT 35) (tT 38) (bC false)), pT 40 31 39, mM 41 40, xF 42 41 false 0 2, xD 43 41 false 42, xI 44 41 false .lss 43 4, xM 45 41 false 44, xF 46 45 true 3 2, xD 47 45 true 46, xL 48 45 true 47, xI 49 45 true .gtr 48 0, gO 50 41 false (.pick (tT 45) (tT 49) (bC false)), pT 51 41 50] (cO 51 (sR [mB 4 false] .ret) .skip)) (.seq (sR [fA 52 0 2, lD 53 52] (.blk 0 (sR [bI 55 .eql 53 2, mM 54 55] (cO 54 (sR [fA 56 1 2, lD 57 56, bI 58 .eql 57 0, mM 59 58, xF 60 59 false 1 2, xD 61 59 false 60, xI 62 59 false .eql 61 1, pT 63 59 62, mM 4 63] .ret) (sR [bI 65 .eql 53 3, mM 64 65] (cO 64 (sR [fA 66 2 2, lD 67 66, lS 68 67, bI 69 .leq 68 256, mM 4 69] .ret) (sR [bI 71 .eql 53 4, mM 70 71] (cO 70 (.seq (sR [fA 72 3 2, lD 73 72, lN 74 73, mC 75 0] (.blk 1 (.loop (sR [bB 76 .lss 75 74] (.seq (cO 76 .skip (.exit 1)) (.seq (.blk 2 (sR [iA 77 4 73 75, lA 78 4 77, oO 6 (.alloc [zI, zI, zS, .nil]), sT 4 6 78] (.seq (.dreg ⟨[(lA 79 4 6, []), (mM 80 1, []), (cC 81 131 [tT 80], [1])], [cC 82 113 [tT 79, tT 81], oO 83 (.un .not (tT 82))], [1]⟩) (cO 83 (sR [mB 4 false] .ret) .skip)))) (.reg [bI 84 .add 75 1, mM 75 84]))))))) (sR [fA 85 3 2, lD 86 85, lN 87 86, bI 88 .leq 87 64, mM 4 88] .ret)) (sR [bI 90 .eql 53 5, mM 89 90] (cO 89 (sR [mM 92 1, cC 93 132 [tT 92], mM 91 93, eX 94 91 0, eX 95 91 1, mM 7 94, mM 8 95] (.seq (sR [fA 96 3 2, lD 97 96, lN 98 97, bI 99 .rem 98 2, bI 100 .eql 99 1, mM 101 100, xF 102 101 false 3 2, xD 103 101 false 102, xL 104 101 false 103, xI 105 101 false .gtr 104 128, pT 106 101 105] (cO 106 (sR [mB 4 false] .ret) .skip)) (sR [fA 107 3 2, lD 108 107, lN 109 108, mC 110 0] (.blk 3 (.loop (sR [bB 111 .lss 110 109] (.seq (cO 111 .skip (.exit 3)) (.seq (.blk 4 (sR [mM 112 110, iA 113 4 108 110, lA 114 4 113, oO 10 (.alloc [zI, zI, zS, .nil]), mM 9 112, sT 4 10 114] (sR [mM 115 7, mM 11 115] (.seq (sR [mM 116 9, bI 117 .rem 116 2, bI 118 .eql 117 1] (cO 118 (.reg [mM 119 8, mM 11 119]) .skip)) (.seq (.dreg ⟨[(lA 120 4 10, []), (mM 121 11, []), (cC 122 113 [tT 120, tT 121], [0, 1]), (oO 123 (.un .not (tT 122)), [0, 1, 2]), (mM 124 123, [0, 1, 2, 3]), (xM 125 124 false 9, [0, 1, 2, 3, 4]), (xI 126 124 false .rem 125 2, [0, 1, 2, 3, 4, 5]), (xI 127 124 false .eql 126 0, [0, 1, 2, 3, 4, 5, 6]), (xM 128 124 false 127, [0, 1, 2, 3, 4, 5, 6, 7]), (xM 129 128 true 9, [0, 1, 2, 3, 4, 5, 6, 7, 8]), (xI 130 128 true .gtr 129 1, [0, 1, 2, 3, 4, 5, 6, 7, 8, 9]), (gO 131 124 false (.pick (tT 128) (tT 130) (bC false)), [0, 1, 2, 3, 4, 5, 6, 7, 8, 9, 10]), (xM 132 124 false 131, [0, 1, 2, 3, 4, 5, 6, 7, 8, 9, 10, 11]), (xF 133 132 true 3 2, [0, 1, 2, 3, 4, 5, 6, 7, 8, 9, 10, 11, 12]), (xD 134 132 true 133, [0, 1, 2, 3, 4, 5, 6, 7, 8, 9, 10, 11, 12, 13]), (xM 135 132 true 9, [0, 1, 2, 3, 4, 5, 6, 7, 8, 9, 10, 11, 12]), (xI 136 132 true .sub 135 2, [0, 1, 2, 3, 4, 5, 6, 7, 8, 9, 10, 11, 12, 15]), (gO 137 132 true (.ia 4 (tT 134) (tT 136)), [0, 1, 2, 3, 4, 5, 6, 7, 8, 9, 10, 11, 12, 13, 14, 15, 16]), (xA 138 132 true 4 137, [0, 1, 2, 3, 4, 5, 6, 7, 8, 9, 10, 11, 12, 13, 14, 15, 16, 17]), (xA 139 132 true 4 10, [0, 1, 2, 3, 4, 5, 6, 7, 8, 9, 10, 11, 12])], [gO 140 132 true (.call (.func 33) [tT 138, tT 139]), xI 141 132 true .geq 140 0, gO 142 124 false (.pick (tT 132) (tT 141) (bC false)), pT 143 124 142], [1, 4]⟩) (cO 143 (sR [mB 4 false] .ret) .skip)))))) (.reg [bI 144 .add 110 1, mM 110 144]))))))))) .skip)))))))))) (sR [mB 4 true] .ret))))
theorem h70 : FnIs prog fe0 145 bu0 [(.mv (.tmp 4))] := .of (fn := Tryz.f113) Tryz.func113 (by kernel_rfl)
def bR0 : Cd := sR [mC 4 0, mC 5 0] (.seq (sR [mM 6 1, bI 7 .gtr 6 0, mM 8 7, xM 9 8 true 0, xM 10 8 true 1, gO 11 8 true (.bin .sub (iC 9223372036854775807) (tT 10)), gO 12 8 true (.bin .gtr (tT 9) (tT 11)), pF 13 8 12, mM 14 13, xM 15 14 false 1, xI 16 14 false .lss 15 0, xM 17 14 false 16, xM 18 17 true 0, xM 19 17 true 1, gO 20 17 true (.bin .sub (iC (-9223372036854775808)) (tT 19)), gO 21 17 true (.bin .lss (tT 18) (tT 20)), gO 22 14 false (.pick (tT 17) (tT 21) (bC false)), pT 23 14 22] (cO 23 (sR [mC 4 0, mC 5 50] .ret) .skip)) (sR [mM 24 0, mM 25 1, bB 26 .add 24 25, mM 4 26, mC 5 0] .ret))
theorem ly0 : FnIs prog h60 27 bR0 [(.mv (.tmp 4)), (.mv (.tmp 5))] := .of (fn := Tryz.f114) Tryz.func114 (by kernel_rfl)
def ai0 : Cd := sR [mC 4 0, mC 5 0] (.seq (sR [mM 9 0, bI 10 .eql 9 0, mM 11 10, xM 12 11 false 1, xI 13 11 false .eql 12 0, pT 14 11 13] (cO 14 (sR [mC 4 0, mC 5 0] .ret) .skip)) (.seq (sR [mM 15 0, bI 16 .eql 15 (-9223372036854775808), mM 17 16, xM 18 17 false 1, xI 19 17 false .eql 18 (-9223372036854775808), pT 20 17 19] (cO 20 (.seq (sR [mM 21 0, bI 22 .eql 21 1, mM 23 22, xM 24 23 false 1, xI 25 23 false .eql 24 1, pT 26 23 25] (cO 26 (sR [mC 4 (-9223372036854775808), mC 5 0] .ret) .skip)) (sR [mC 4 0, mC 5 50] .ret)) .skip)) (sR [mM 27 0, mM 28 1, mM 6 27, mM 7 28] (.seq (sR [mM 29 6, bI 30 .lss 29 0] (cO 30 (.reg [mM 31 6, oO 32 (.un .neg (tT 31)), mM 6 32]) .skip)) (.seq (sR [mM 33 7, bI 34 .lss 33 0] (cO 34 (.reg [mM 35 7, oO 36 (.un .neg (tT 35)), mM 7 36]) .skip)) (sR [mM 37 0, bI 38 .lss 37 0, mM 39 1, bI 40 .lss 39 0, oO 41 (.binb true (tT 38) (tT 40)), mM 8 41] (.seq (sR [mM 42 6, mM 43 7, oO 44 (.bin .quo (iC 9223372036854775807) (tT 43)), bB 45 .gtr 42 44] (cO 45 (.seq (sR [mM 46 8, mM 47 46, xM 48 47 true 7, gO 49 47 true (.bin .rem (iC 9223372036854775807) (tT 48)), xM 50 47 true 7, xI 51 47 true .sub 50 1, gO 52 47 true (.bin .eql (tT 49) (tT 51)), pF 53 47 52, mM 54 53, xM 55 54 true 6, xM 56 54 true 7, gO 57 54 true (.bin .quo (iC 9223372036854775807) (tT 56)), xI 58 54 true .add 57 1, gO 59 54 true (.bin .eql (tT 55) (tT 58)), pF 60 54 59] (cO 60 (sR [mC 4 (-9223372036854775808), mC 5 0] .ret) .skip)) (sR [mC 4 0, mC 5 50] .ret)) .skip)) (.seq (sR [mM 61 8] (cO 61 (sR [mM 62 6, mM 63 7, bB 64 .mul 62 63, oO 65 (.un .neg (tT 64)), mM 4 65, mC 5 0] .ret) .skip)) (sR [mM 66 6, mM 67 7, bB 68 .mul 66 67, mM 4 68, mC 5 0] .ret)))))))))
theorem aI0 : FnIs prog bF0 69 ai0 [(.mv (.tmp 4)), (.mv (.tmp 5))] := .of (fn := Tryz.f115) Tryz.func115 (by kernel_rfl)
def ih0 : Cd := sR [oO 2 (.mv (.const (.string ⟨⟨[]⟩⟩)))] (sR [mM 3 0, cC 4 133 [tT 3], mM 2 4] .ret)
theorem m30 : FnIs prog jv0 5 ih0 [(.mv (.tmp 2))] := .of (fn := Tryz.f116) Tryz.func116 (by kernel_rfl)
def e80 : Cd := sR [bX 2 4 0, bX 3 4 1, mC 4 0] (.seq (sR [mC 5 0] (.blk 0 (.loop (.seq (sR [mM 6 5, bI 7 .add 6 1, fA 8 3 2, lD 9 8, lN 10 9, bB 11 .lss 7 10] (cO 11 .skip (.exit 0))) (.seq (.blk 1 (.seq (.dreg ⟨[(fA 14 3 2, []), (lD 15 14, [0]), (mM 16 5, []), (iA 17 4 15 16, [0, 1, 2]), (lA 18 4 17, [0, 1, 2, 3]), (lA 19 4 3, [])], [cC 20 15 [tT 18, tT 19]], [0, 2]⟩) (cO 20 (sR [mM 21 5, mM 4 21] .ret) .skip))) (.reg [mM 12 5, bI 13 .add 12 2, mM 5 13])))))) (sR [mC 4 (-1)] .ret))
theorem j10 : FnIs prog fU0 22 e80 [(.mv (.tmp 4))] := .of (fn := Tryz.f117) Tryz.func117 (by kernel_rfl)
def e70 : Cd := sR [bX 1 4 0, oO 2 (.alloc [zI, zI, zS, .nil]), mC 3 0] (.seq (sR [lA 4 4 1, cC 5 23 [tT 4], bI 6 .gtr 5 16384] (cO 6 (sR [oO 7 (.build [zI, zI, zS, .nil] []), sT 4 2 7, mC 3 53] .ret) .skip)) (sR [lA 8 4 1, sT 4 2 8, mC 3 0] .ret))
theorem j00 : FnIs prog fT0 9 e70 [(.lda 4 (.tmp 2)), (.mv (.tmp 3))] := .of (fn := Tryz.f118) Tryz.func118 (by kernel_rfl)
def h00 : Cd := sR [mB 2 false] (sR [mM 3 0, mM 4 0, bB 5 .neq 3 4, mM 2 5] .ret)
theorem mg0 : FnIs prog io0 6 h00 [(.mv (.tmp 2))] := .of (fn := Tryz.f119) Tryz.func119 (by kernel_rfl)
def bX0 : Cd := sR [mC 4 0] (sR [mM 5 0, mM 6 1, cC 7 134 [tT 5, tT 6], mM 4 7] .ret)
theorem dK0 : FnIs prog ca0 8 bX0 [(.mv (.tmp 4))] := .of (fn := Tryz.f120) Tryz.func120 (by kernel_rfl)
def fL0 : Cd := sR [mB 4 false] (.seq (sR [mM 11 0] (.blk 0 (.seq (sR [oO 13 (.bin .eql (tT 11) (.const (.string ⟨⟨[105, 110, 116]⟩⟩))), mM 12 13] (cO 12 .skip (sR [oO 14 (.bin .eql (tT 11) (.const (.string ⟨⟨[98, 111, 111, 108]⟩⟩))), mM 12 14] (cO 12 .skip (.reg [oO 15 (.bin .eql (tT 11) (.const (.string ⟨⟨[116, 101, 120, 116]⟩⟩))), mM 12 15]))))) (cO 12 (sR [mM 16 1, bI 17 .leq 16 4, mM 4 17] .ret) .skip)))) (.seq (sR [mM 18 0, lS 19 18, bI 20 .lss 19 2, mM 21 20, xM 22 21 false 1, xI 23 21 false .geq 22 4, pT 24 21 23] (cO 24 (sR [mB 4 false] .ret) .skip)) (.seq (sR [mM 26 0, mM 27 0, lS 28 27, bI 29 .sub 28 1, oO 30 (.slS (tT 26) none (some (tT 29))), oO 31 (.call (.func 135) [tT 30, .const (.string ⟨⟨[91]⟩⟩)]), mM 25 31, eX 32 25 0, eX 33 25 1, mM 5 32, mM 6 33] (sR [mM 34 6] (cO 34 (sR [mM 35 0, mM 36 0, lS 37 36, bI 38 .sub 37 1, oO 39 (.ixS (tT 35) (tT 38)), oO 40 (.bin .eql (tT 39) (.const (.int .u8 93))), mM 41 40, xM 42 41 true 5, xM 43 41 true 1, xI 44 41 true .add 43 1, gO 45 41 true (.call (.func 121) [tT 42, tT 44]), pF 46 41 45, mM 4 46] .ret) .skip))) (.seq (sR [oO 47 (.mkrow 9 1 [.const (.string ⟨⟨[123, 105, 110, 116, 58]⟩⟩), .const (.string ⟨⟨[123, 116, 101, 120, 116, 58]⟩⟩)]), lN 48 47, mC 49 0] (.blk 1 (.loop (sR [bB 50 .lss 49 48] (.seq (cO 50 .skip (.exit 1)) (.seq (.blk 2 (sR [iA 51 1 47 49, lD 52 51, mM 8 52] (sR [mM 54 0, mM 55 0, lS 56 55, bI 57 .sub 56 1, oO 58 (.slS (tT 54) none (some (tT 57))), mM 59 8, cC 60 135 [tT 58, tT 59], mM 53 60, eX 61 53 0, eX 62 53 1, mM 9 61, mM 10 62] (sR [mM 63 10] (cO 63 (sR [mM 64 0, mM 65 0, lS 66 65, bI 67 .sub 66 1, oO 68 (.ixS (tT 64) (tT 67)), oO 69 (.bin .eql (tT 68) (.const (.int .u8 125))), mM 70 69, xM 71 70 true 9, xM 72 70 true 1, xI 73 70 true .add 72 1, gO 74 70 true (.call (.func 121) [tT 71, tT 73]), pF 75 70 74, mM 4 75] .ret) .skip))))) (.reg [bI 76 .add 49 1, mM 49 76]))))))) (sR [mB 4 false] .ret)))))
theorem iC0 : FnIs prog hC0 77 fL0 [(.mv (.tmp 4))] := .of (fn := Tryz.f121) Tryz.func121 (by kernel_rfl)
def hg0 : Cd := sR [oO 2 (.mv (.const (.string ⟨⟨[]⟩⟩))), mB 3 false] (.seq (sR [mM 4 0, cC 5 89 [tT 4], oO 6 (.un .not (tT 5)), mM 7 6, xM 8 7 false 0, gO 9 7 false (.ixS (tT 8) (iC 0)), gO 10 7 false (.bin .neq (tT 9) (.const (.int .u8 91))), pT 11 7 10] (cO 11 (sR [oO 2 (.mv (.const (.string ⟨⟨[]⟩⟩))), mB 3 false] .ret) .skip)) (sR [mM 12 0, mM 13 0, lS 14 13, bI 15 .sub 14 1, oO 16 (.slS (tT 12) (some (iC 1)) (some (tT 15))), mM 2 16, mB 3 true] .ret))
theorem kL0 : FnIs prog ip0 17 hg0 [(.mv (.tmp 2)), (.mv (.tmp 3))] := .of (fn := Tryz.f122) Tryz.func122 (by kernel_rfl)
def lU0 : Cd := sR [oO 2 (.mv (.const (.string ⟨⟨[]⟩⟩))), oO 3 (.mv (.const (.string ⟨⟨[]⟩⟩))), mB 4 false] (.seq (sR [mM 8 0, cC 9 89 [tT 8], oO 10 (.un .not (tT 9)), mM 11 10, xM 12 11 false 0, gO 13 11 false (.ixS (tT 12) (iC 0)), gO 14 11 false (.bin .neq (tT 13) (.const (.int .u8 123))), pT 15 11 14] (cO 15 (sR [oO 2 (.mv (.const (.string ⟨⟨[]⟩⟩))), oO 3 (.mv (.const (.string ⟨⟨[]⟩⟩))), mB 4 false] .ret) .skip)) (sR [mM 17 0, mM 18 0, lS 19 18, bI 20 .sub 19 1, oO 21 (.slS (tT 17) (some (iC 1)) (some (tT 20))), oO 22 (.call (.func 136) [tT 21, .const (.string ⟨⟨[58]⟩⟩)]), mM 16 22, eX 23 16 0, eX 24 16 1, eX 25 16 2, mM 5 23, mM 6 24, mM 7 25] (sR [mM 26 5, mM 27 6, mM 2 26, mM 3 27, mB 4 true] .ret)))
theorem qF0 : FnIs prog mR0 28 lU0 [(.mv (.tmp 2)), (.mv (.tmp 3)), (.mv (.tmp 4))] := .of (fn := Tryz.f124) Tryz.func124 (by kernel_rfl)
def kl0 : Cd := sR [bX 2 4 0, bX 3 4 1, mC 4 0, mB 5 false] (.seq (sR [mC 6 0] (.blk 0 (.loop (.seq (sR [mM 8 6, bI 9 .add 8 1, fA 10 3 2, lD 11 10, lN 12 11, bB 13 .lss 9 12] (cO 13 .skip (.exit 0))) (.seq (.blk 1 (.seq (.dreg ⟨[(fA 16 3 2, []), (lD 17 16, [0]), (mM 18 6, []), (iA 19 4 17 18, [0, 1, 2]), (lA 20 4 19, [0, 1, 2, 3]), (lA 21 4 3, [])], [cC 22 54 [tT 20, tT 21], mM 7 22], [0, 2]⟩) (sR [mM 23 7, bI 24 .geq 23 0] (cO 24 (sR [mM 25 6, mM 26 7, bI 27 .eql 26 0, mM 4 25, mM 5 27] .ret) .skip)))) (.reg [mM 14 6, bI 15 .add 14 2, mM 6 15])))))) (sR [fA 28 3 2, lD 29 28, lN 30 29, mM 4 30, mB 5 false] .ret))
theorem pr0 : FnIs prog l50 31 kl0 [(.mv (.tmp 4)), (.mv (.tmp 5))] := .of (fn := Tryz.f125) Tryz.func125 (by kernel_rfl)
def h30 : Cd := sR [bX 1 4 0, oO 2 (.alloc [zI, zI, zS, .nil]), mC 3 0] (.seq (sR [lA 4 4 1, cC 5 21 [tT 4], bI 6 .gtr 5 16384] (cO 6 (sR [oO 7 (.build [zI, zI, zS, .nil] []), sT 4 2 7, mC 3 53] .ret) .skip)) (sR [lA 8 4 1, sT 4 2 8, mC 3 0] .ret))
theorem mj0 : FnIs prog iq0 9 h30 [(.lda 4 (.tmp 2)), (.mv (.tmp 3))] := .of (fn := Tryz.f126) Tryz.func126 (by kernel_rfl)
def bL0 : Cd := sR [oO 6 (.mv (.const (.slice none 0 0)))] (sR [mM 10 0, mM 11 1, oO 12 (.slL 4 (tT 10) (some (tT 11)) none)] (sR [mM 13 2, lN 14 13, mM 7 14] (.seq (sR [mM 15 7, bI 16 .eql 15 0] (cO 16 (sR [mM 17 0, mM 6 17] .ret) .skip)) (sR [mM 18 0, lN 19 18, mM 8 19] (.seq (sR [mM 20 1, mM 21 8, bB 22 .eql 20 21] (cO 22 (sR [mM 23 0, mM 24 2, oO 25 (.app 31 4 56 (tT 23) (tT 24)), mM 6 25] .ret) .skip)) (.seq (sR [mM 26 8, mM 27 7, bB 28 .add 26 27, mM 29 0, oO 30 (.capn (tT 29)), bB 31 .gtr 28 30] (cO 31 (sR [mM 32 0, mM 33 1, oO 34 (.slL 4 (tT 32) none (some (tT 33))), mM 35 8, mM 36 7, bB 37 .add 35 36, mM 38 1, bB 39 .sub 37 38, oO 40 (.appz 31 4 56 [zI, zI, zS, .nil] (tT 34) (tT 39)), mM 9 40] (sR [mM 41 9, mM 42 1, oO 43 (.slL 4 (tT 41) (some (tT 42)) none), mM 44 2, oO 45 (.cpy 4 (tT 43) (tT 44))] (.seq (.dreg ⟨[(mM 46 9, []), (mM 47 1, []), (mM 48 7, []), (bB 49 .add 47 48, [1, 2]), (oO 50 (.slL 4 (tT 46) (some (tT 49)) none), [0, 1, 2, 3]), (mM 51 0, []), (mM 52 1, []), (oO 53 (.slL 4 (tT 51) (some (tT 52)) none), [5, 6])], [oO 54 (.cpy 4 (tT 50) (tT 53))], [0, 1, 2, 5, 6]⟩) (sR [mM 55 9, mM 6 55] .ret)))) .skip)) (sR [mM 56 0, mM 57 8, mM 58 7, bB 59 .add 57 58, oO 60 (.slL 4 (tT 56) none (some (tT 59))), mM 0 60] (.seq (sR [mM 61 2, mM 62 0, mM 63 1, mM 64 7, bB 65 .add 63 64, oO 66 (.slL 4 (tT 62) (some (tT 65)) none), cC 67 137 [tT 61, tT 66], oO 68 (.un .not (tT 67))] (cO 68 (.seq (.dreg ⟨[(mM 69 0, []), (mM 70 1, []), (mM 71 7, []), (bB 72 .add 70 71, [1, 2]), (oO 73 (.slL 4 (tT 69) (some (tT 72)) none), [0, 1, 2, 3]), (mM 74 0, []), (mM 75 1, []), (oO 76 (.slL 4 (tT 74) (some (tT 75)) none), [5, 6])], [oO 77 (.cpy 4 (tT 73) (tT 76))], [0, 1, 2, 5, 6]⟩) (sR [mM 78 0, mM 79 1, oO 80 (.slL 4 (tT 78) (some (tT 79)) none), mM 81 2, oO 82 (.cpy 4 (tT 80) (tT 81))] (sR [mM 83 0, mM 6 83] .ret))) .skip)) (sR [mM 84 0, mM 85 8, oO 86 (.slL 4 (tT 84) (some (tT 85)) none), mM 87 2, oO 88 (.cpy 4 (tT 86) (tT 87))] (sR [mM 89 0, mM 90 1, oO 91 (.slL 4 (tT 89) (some (tT 90)) none), mM 92 7, cC 93 138 [tT 91, tT 92]] (sR [mM 94 0, mM 6 94] .ret)))))))))))
theorem c30 : FnIs prog a90 95 bL0 [(.mv (.tmp 6))] := .of (fn := Tryz.f127) Tryz.func127 (by kernel_rfl)
def bK0 : Cd := sR [oO 6 (.mv (.const (.slice none 0 0)))] (sR [mM 8 0, mM 9 1, mM 10 2, mM 11 0, lN 12 11, oO 13 (.sl3 (tT 8) (tT 9) (tT 10) (tT 12))] (.seq (sR [mM 14 1, mM 15 2, bB 16 .eql 14 15] (cO 16 (sR [mM 17 0, mM 6 17] .ret) .skip)) (sR [mM 18 0, lN 19 18, mM 7 19] (.seq (.dreg ⟨[(mM 20 0, []), (mM 21 1, []), (oO 22 (.slL 4 (tT 20) none (some (tT 21))), [0, 1]), (mM 23 0, []), (mM 24 2, []), (oO 25 (.slL 4 (tT 23) (some (tT 24)) none), [3, 4])], [oO 26 (.app 31 4 56 (tT 22) (tT 25)), mM 0 26], [0, 1, 3, 4]⟩) (sR [mM 27 0, mM 28 0, lN 29 28, mM 30 7, oO 31 (.slL 4 (tT 27) (some (tT 29)) (some (tT 30))), nO (.clr 4 [zI, zI, zS, .nil] (tT 31))] (sR [mM 32 0, mM 6 32] .ret))))))
theorem c20 : FnIs prog a60 33 bK0 [(.mv (.tmp 6))] := .of (fn := Tryz.f128) Tryz.func128 (by kernel_rfl)
def cn0 : Cd := sR [mC 2 0] (.seq (sR [mM 5 0, oO 6 (.bin .eql (tT 5) (.const (.string ⟨⟨[105, 110, 116]⟩⟩))), mM 7 6, xM 8 7 false 0, gO 9 7 false (.bin .eql (tT 8) (.const (.string ⟨⟨[98, 111, 111, 108]⟩⟩))), pT 10 7 9, mM 11 10, xM 12 11 false 0, gO 13 11 false (.bin .eql (tT 12) (.const (.string ⟨⟨[116, 101, 120, 116]⟩⟩))), pT 14 11 13] (cO 14 (sR [mC 2 1] .ret) .skip)) (sR [oO 3 (.mv (.const (.string ⟨⟨[]⟩⟩)))] (.seq (sR [mM 15 0, lS 16 15, bI 17 .gtr 16 2, mM 18 17, xM 19 18 true 0, gO 20 18 true (.ixS (tT 19) (iC 0)), gO 21 18 true (.bin .eql (tT 20) (.const (.int .u8 91))), pF 22 18 21, mM 23 22, xM 24 23 true 0, xM 25 23 true 0, gO 26 23 true (.lenS (tT 25)), xI 27 23 true .sub 26 1, gO 28 23 true (.ixS (tT 24) (tT 27)), gO 29 23 true (.bin .eql (tT 28) (.const (.int .u8 93))), pF 30 23 29] (cO 30 (.reg [mM 31 0, mM 32 0, lS 33 32, bI 34 .sub 33 1, oO 35 (.slS (tT 31) (some (iC 1)) (some (tT 34))), mM 3 35]) (sR [mM 36 0, lS 37 36, bI 38 .gtr 37 6, mM 39 38, xM 40 39 true 0, gO 41 39 true (.slS (tT 40) none (some (iC 5))), gO 42 39 true (.bin .eql (tT 41) (.const (.string ⟨⟨[123, 105, 110, 116, 58]⟩⟩))), pF 43 39 42, mM 44 43, xM 45 44 true 0, xM 46 44 true 0, gO 47 44 true (.lenS (tT 46)), xI 48 44 true .sub 47 1, gO 49 44 true (.ixS (tT 45) (tT 48)), gO 50 44 true (.bin .eql (tT 49) (.const (.int .u8 125))), pF 51 44 50] (cO 51 (.reg [mM 52 0, mM 53 0, lS 54 53, bI 55 .sub 54 1, oO 56 (.slS (tT 52) (some (iC 5)) (some (tT 55))), mM 3 56]) (sR [mM 57 0, lS 58 57, bI 59 .gtr 58 7, mM 60 59, xM 61 60 true 0, gO 62 60 true (.slS (tT 61) none (some (iC 6))), gO 63 60 true (.bin .eql (tT 62) (.const (.string ⟨⟨[123, 116, 101, 120, 116, 58]⟩⟩))), pF 64 60 63, mM 65 64, xM 66 65 true 0, xM 67 65 true 0, gO 68 65 true (.lenS (tT 67)), xI 69 65 true .sub 68 1, gO 70 65 true (.ixS (tT 66) (tT 69)), gO 71 65 true (.bin .eql (tT 70) (.const (.int .u8 125))), pF 72 65 71] (cO 72 (.reg [mM 73 0, mM 74 0, lS 75 74, bI 76 .sub 75 1, oO 77 (.slS (tT 73) (some (iC 6)) (some (tT 76))), mM 3 77]) (sR [mC 2 0] .ret))))))) (.seq (sR [mM 78 0, lS 79 78, bI 80 .gtr 79 200] (cO 80 (sR [mC 2 0] .ret) .skip)) (sR [mM 81 3, cC 82 129 [tT 81], mM 4 82] (.seq (sR [mM 83 4, bI 84 .eql 83 0] (cO 84 (sR [mC 2 0] .ret) .skip)) (sR [mM 85 4, bI 86 .add 85 1, mM 2 86] .ret)))))))
theorem df0 : FnIs prog cE0 87 cn0 [(.mv (.tmp 2))] := .of (fn := Tryz.f129) Tryz.func129 (by kernel_rfl)
def bE0 : Cd := sR [oO 2 (.alloc [zI, zI, zS, .nil])] (sR [mC 3 0] (.seq (sR [mM 4 0, oO 5 (.bin .eql (tT 4) (.const (.string ⟨⟨[105, 110, 116]⟩⟩)))] (cO 5 (.reg [mC 3 1]) (sR [mM 6 0, oO 7 (.bin .eql (tT 6) (.const (.string ⟨⟨[98, 111, 111, 108]⟩⟩)))] (cO 7 (.reg [mC 3 2]) (sR [mM 8 0, oO 9 (.bin .eql (tT 8) (.const (.string ⟨⟨[116, 101, 120, 116]⟩⟩)))] (cO 9 (.reg [mC 3 3]) (sR [mM 10 0, cC 11 131 [tT 10], oO 12 (.bin .neq (tT 11) (.const (.string ⟨⟨[]⟩⟩)))] (cO 12 (.reg [mC 3 4]) (sR [mM 13 0, cC 14 112 [tT 13]] (cO 14 (.reg [mC 3 5]) .skip)))))))))) (sR [mM 15 3, oO 16 (.build [zI, zI, zS, .nil] [(0, 1, tT 15)]), sT 4 2 16] .ret)))
theorem kD0 : FnIs prog gN0 17 bE0 [(.lda 4 (.tmp 2))] := .of (fn := Tryz.f130) Tryz.func130 (by kernel_rfl)
def dt0 : Cd := sR [oO 2 (.mv (.const (.string ⟨⟨[]⟩⟩)))] (.seq (sR [mM 3 0, cC 4 112 [tT 3], oO 5 (.un .not (tT 4)), mM 6 5, xM 7 6 false 0, gO 8 6 false (.ixS (tT 7) (iC 0)), gO 9 6 false (.bin .neq (tT 8) (.const (.int .u8 91))), pT 10 6 9] (cO 10 (sR [oO 2 (.mv (.const (.string ⟨⟨[]⟩⟩)))] .ret) .skip)) (sR [mM 11 0, mM 12 0, lS 13 12, bI 14 .sub 13 1, oO 15 (.slS (tT 11) (some (iC 1)) (some (tT 14))), mM 2 15] .ret))
theorem gc0 : FnIs prog dZ0 16 dt0 [(.mv (.tmp 2))] := .of (fn := Tryz.f131) Tryz.func131 (by kernel_rfl)
def gE0 : Cd := sR [oO 2 (.mv (.const (.string ⟨⟨[]⟩⟩))), oO 3 (.mv (.const (.string ⟨⟨[]⟩⟩)))] (.seq (sR [mM 4 0, cC 5 112 [tT 4], oO 6 (.un .not (tT 5)), mM 7 6, xM 8 7 false 0, gO 9 7 false (.ixS (tT 8) (iC 0)), gO 10 7 false (.bin .neq (tT 9) (.const (.int .u8 123))), pT 11 7 10] (cO 11 (sR [oO 2 (.mv (.const (.string ⟨⟨[]⟩⟩))), oO 3 (.mv (.const (.string ⟨⟨[]⟩⟩)))] .ret) .skip)) (.seq (sR [mM 12 0, oO 13 (.ixS (tT 12) (iC 1)), oO 14 (.bin .eql (tT 13) (.const (.int .u8 105)))] (cO 14 (.seq (.dreg ⟨[(mM 15 0, []), (mM 16 0, []), (lS 17 16, [1]), (bI 18 .sub 17 1, [1, 2]), (oO 19 (.slS (tT 15) (some (iC 5)) (some (tT 18))), [0, 1, 2, 3]), (oO 2 (.mv (.const (.string ⟨⟨[105, 110, 116]⟩⟩))), [])], [mM 3 19], [0, 1, 5]⟩) .ret) .skip)) (.seq (.dreg ⟨[(mM 20 0, []), (mM 21 0, []), (lS 22 21, [1]), (bI 23 .sub 22 1, [1, 2]), (oO 24 (.slS (tT 20) (some (iC 6)) (some (tT 23))), [0, 1, 2, 3]), (oO 2 (.mv (.const (.string ⟨⟨[116, 101, 120, 116]⟩⟩))), [])], [mM 3 24], [0, 1, 5]⟩) .ret)))
theorem lt0 : FnIs prog h50 25 gE0 [(.mv (.tmp 2)), (.mv (.tmp 3))] := .of (fn := Tryz.f132) Tryz.func132 (by kernel_rfl)
def dh0 : Cd := sR [oO 2 (.mv (.const (.string ⟨⟨[]⟩⟩)))] (sR [mM 3 0, cC 4 139 [tT 3, iC 10], mM 2 4] .ret)
theorem gU0 : FnIs prog dy0 5 dh0 [(.mv (.tmp 2))] := .of (fn := Tryz.f133) Tryz.func133 (by kernel_rfl)
def eM0 : Cd := sR [oO 4 (.mv (.const (.string ⟨⟨[]⟩⟩))), mB 5 false] (sR [mM 6 0, mM 7 1, cC 8 140 [tT 6, tT 7], eX 9 8 0, eX 10 8 1, mM 4 9, mM 5 10] .ret)
theorem jm0 : FnIs prog fi0 11 eM0 [(.mv (.tmp 4)), (.mv (.tmp 5))] := .of (fn := Tryz.f135) Tryz.func135 (by kernel_rfl)
def js0 : Cd := sR [oO 4 (.mv (.const (.string ⟨⟨[]⟩⟩))), oO 5 (.mv (.const (.string ⟨⟨[]⟩⟩))), mB 6 false] (sR [mM 7 0, mM 8 1, cC 9 141 [tT 7, tT 8], eX 10 9 0, eX 11 9 1, eX 12 9 2, mM 4 10, mM 5 11, mM 6 12] .ret)
theorem n30 : FnIs prog kv0 13 js0 [(.mv (.tmp 4)), (.mv (.tmp 5)), (.mv (.tmp 6))] := .of (fn := Tryz.f136) Tryz.func136 (by kernel_rfl)
def bY0 : Cd := sR [oO 4 (.mv (.const (.string ⟨⟨[]⟩⟩))), mB 5 false] (.seq (sR [mM 6 0, mM 7 1, cC 8 147 [tT 6, tT 7], oO 9 (.un .not (tT 8))] (cO 9 (sR [mM 10 0, mM 4 10, mB 5 false] .ret) .skip)) (sR [mM 11 0, mM 12 1, lS 13 12, oO 14 (.slS (tT 11) (some (tT 13)) none), mM 4 14, mB 5 true] .ret))
theorem dL0 : FnIs prog cb0 15 bY0 [(.mv (.tmp 4)), (.mv (.tmp 5))] := .of (fn := Tryz.f140) Tryz.func140 (by kernel_rfl)
def cH0 : Cd := sR [oO 4 (.mv (.const (.string ⟨⟨[]⟩⟩))), oO 5 (.mv (.const (.string ⟨⟨[]⟩⟩))), mB 6 false] (.seq (sR [mM 8 0, mM 9 1, cC 10 148 [tT 8, tT 9], mM 7 10] (sR [mM 11 7, bI 12 .geq 11 0] (cO 12 (.seq (.dreg ⟨[(mM 13 0, []), (mM 14 7, []), (oO 15 (.slS (tT 13) none (some (tT 14))), [0, 1]), (mM 16 0, []), (mM 17 7, []), (mM 18 1, []), (lS 19 18, [5]), (bB 20 .add 17 19, [4, 5, 6]), (oO 21 (.slS (tT 16) (some (tT 20)) none), [3, 4, 5, 6, 7]), (mM 4 15, [0, 1, 2])], [mM 5 21, mB 6 true], [0, 1, 3, 4, 5, 9]⟩) .ret) .skip))) (sR [mM 22 0, mM 4 22, oO 5 (.mv (.const (.string ⟨⟨[]⟩⟩))), mB 6 false] .ret))
theorem fl0 : FnIs prog cX0 23 cH0 [(.mv (.tmp 4)), (.mv (.tmp 5)), (.mv (.tmp 6))] := .of (fn := Tryz.f141) Tryz.func141 (by kernel_rfl)
def bZ0 : Cd := sR [mB 4 false] (sR [mM 5 0, lS 6 5, mM 7 1, lS 8 7, bB 9 .geq 6 8, mM 10 9, xM 11 10 true 0, xM 12 10 true 1, gO 13 10 true (.lenS (tT 12)), gO 14 10 true (.slS (tT 11) none (some (tT 13))), xM 15 10 true 1, gO 16 10 true (.bin .eql (tT 14) (tT 15)), pF 17 10 16, mM 4 17] .ret)
theorem dM0 : FnIs prog cc0 18 bZ0 [(.mv (.tmp 4))] := .of (fn := Tryz.f147) Tryz.func147 (by kernel_rfl)
def cs0 : Cd := sR [mC 4 0] (sR [mM 14 1, lS 15 14, mM 5 15] (.seq (.blk 0 (sR [mM 17 5, bI 18 .eql 17 0, mM 19 18, xM 20 19 false 1, xM 21 19 false 0, gO 22 19 false (.bin .eql (tT 20) (tT 21)), pT 23 19 22, mM 16 23] (cO 16 (sR [mC 4 0] .ret) (sR [mM 25 5, bI 26 .eql 25 1, mM 24 26] (cO 24 (sR [mM 27 0, mM 28 1, oO 29 (.ixS (tT 28) (iC 0)), cC 30 155 [tT 27, tT 29], mM 4 30] .ret) (sR [mM 32 5, mM 33 0, lS 34 33, bB 35 .geq 32 34, mM 31 35] (cO 31 (sR [mC 4 (-1)] .ret) (sR [mM 37 5, oO 38 (.ld (.global 0)), bB 39 .leq 37 38, mM 40 39, xM 41 40 true 0, gO 42 40 true (.lenS (tT 41)), xI 43 40 true .leq 42 64, pF 44 40 43, mM 36 44] (cO 36 (sR [mM 45 0, mM 46 1, cC 47 156 [tT 45, tT 46], mM 4 47] .ret) .skip))))))))) (sR [mM 48 1, oO 49 (.ixS (tT 48) (iC 0)), mM 6 49] (sR [mM 50 1, oO 51 (.ixS (tT 50) (iC 1)), mM 7 51] (sR [mC 8 0] (sR [mM 52 0, lS 53 52, mM 54 5, bB 55 .sub 53 54, bI 56 .add 55 1, mM 9 56] (sR [mC 10 0] (.seq (.blk 1 (.loop (.seq (sR [mM 57 8, mM 58 9, bB 59 .lss 57 58] (cO 59 .skip (.exit 1))) (.blk 2 (.seq (sR [mM 60 0, mM 61 8, oO 62 (.ixS (tT 60) (tT 61)), mM 63 6, bB 64 .neq 62 63] (cO 64 (sR [mM 65 0, mM 66 8, bI 67 .add 66 1, mM 68 9, oO 69 (.slS (tT 65) (some (tT 67)) (some (tT 68))), mM 70 6, cC 71 155 [tT 69, tT 70], mM 11 71] (.seq (sR [mM 72 11, bI 73 .lss 72 0] (cO 73 (sR [mC 4 (-1)] .ret) .skip)) (.reg [mM 74 8, mM 75 11, bI 76 .add 75 1, bB 77 .add 74 76, mM 8 77]))) .skip)) (.seq (sR [mM 78 0, mM 79 8, bI 80 .add 79 1, oO 81 (.ixS (tT 78) (tT 80)), mM 82 7, bB 83 .eql 81 82, mM 84 83, xM 85 84 true 0, xM 86 84 true 8, xM 87 84 true 8, xM 88 84 true 5, gO 89 84 true (.bin .add (tT 87) (tT 88)), gO 90 84 true (.slS (tT 85) (some (tT 86)) (some (tT 89))), xM 91 84 true 1, gO 92 84 true (.bin .eql (tT 90) (tT 91)), pF 93 84 92] (cO 93 (sR [mM 94 8, mM 4 94] .ret) .skip)) (sR [mM 95 8, bI 96 .add 95 1, mM 8 96] (sR [mM 97 10, bI 98 .add 97 1, mM 10 98] (sR [mM 99 5, oO 100 (.ld (.global 0)), bB 101 .leq 99 100, mM 102 101, xM 103 102 true 10, xM 104 102 true 8, gO 105 102 true (.call (.func 157) [tT 104]), gO 106 102 true (.bin .gtr (tT 103) (tT 105)), pF 107 102 106] (cO 107 (sR [mM 108 0, mM 109 8, oO 110 (.slS (tT 108) (some (tT 109)) none), mM 111 1, cC 112 156 [tT 110, tT 111], mM 12 112] (.seq (sR [mM 113 12, bI 114 .geq 113 0] (cO 114 (sR [mM 115 12, mM 116 8, bB 117 .add 115 116, mM 4 117] .ret) .skip)) (sR [mC 4 (-1)] .ret))) (sR [mM 118 5, oO 119 (.ld (.global 0)), bB 120 .gtr 118 119, mM 121 120, xM 122 121 true 10, xM 123 121 true 8, gO 124 121 true (.bin .shr (tT 123) (.const (.int .u64 4))), gO 125 121 true (.bin .add (iC 4) (tT 124)), gO 126 121 true (.bin .geq (tT 122) (tT 125)), pF 127 121 126, mM 128 127, xM 129 128 true 8, xM 130 128 true 9, gO 131 128 true (.bin .lss (tT 129) (tT 130)), pF 132 128 131] (cO 132 (sR [mM 133 0, mM 134 8, oO 135 (.slS (tT 133) (some (tT 134)) none), mM 136 1, cC 137 158 [tT 135, tT 136], mM 13 137] (.seq (sR [mM 138 13, bI 139 .lss 138 0] (cO 139 (sR [mC 4 (-1)] .ret) .skip)) (sR [mM 140 8, mM 141 13, bB 142 .add 140 141, mM 4 142] .ret))) .skip)))))))))))) (sR [mC 4 (-1)] .ret)))))))))
theorem eD0 : FnIs prog cD0 143 cs0 [(.mv (.tmp 4))] := .of (fn := Tryz.f148) Tryz.func148 (by kernel_rfl)
def b00 : Cd := sR [mC 4 0] (sR [mM 5 0, mM 6 1, cC 7 161 [tT 5, tT 6], mM 4 7] .ret)
theorem dN0 : FnIs prog ce0 8 b00 [(.mv (.tmp 4))] := .of (fn := Tryz.f155) Tryz.func155 (by kernel_rfl)
end Go.Am
end

section
namespace Go.Am
variable {P : Program} {n : Nat} {env : Env} {hp : Hp}
def aS0 : Env -> Nat -> (V -> Prop) -> Prop
 | [], _, _ => False
 | (s, v) :: e, t, K => if t = s then K v else aS0 e t K
theorem ek0 (t : Nat) (K : V -> Prop) : ∀ env : Env, aS0 env t K = ∃ v, env.lookup t = some v /\ K v
 | [] => by simp [aS0]
 | (s, v) :: e => by
  simp only [aS0, List.lookup_cons]
  by_cases h : t = s
  ·subst h; simp
  ·have : (t == s) = false := by simpa using h
   rw [if_neg h, this, ek0 t K e]
def evK (env : Env) : Operand -> (V -> Prop) -> Prop
 | .tmp t, K => aS0 env t K
 | .const c, K => K (ofConst c)
 | .func f, K => K (.fn f [])
 | .global _, _ => False
theorem b20 (x : Operand) (K : V -> Prop) : evK env x K = ∃ v, Env.ev env x = some v /\ K v := by
 cases x <;> simp [evK, Env.ev, ek0]
def evsK (env : Env) : List Operand -> (List V -> Prop) -> Prop
 | [], K => K []
 | x :: xs, K => evK env x fun v => evsK env xs fun vs => K (v :: vs)
theorem lm0 : ∀ (xs : List Operand) (K : List V -> Prop), evsK env xs K = ∃ vs, xs.mapM (Env.ev env) = some vs /\ K vs
 | [], K => by simp [evsK]
 | x :: xs, K => by
  simp only [evsK, b20, lm0 xs, List.mapM_cons]
  apply propext
  constructor
  ·rintro ⟨v, h1, vs, h2, h3⟩; exact ⟨v :: vs, by simp [h1, h2], h3⟩
  ·rintro ⟨vs, h1, h2⟩
   simp only [Option.bind_eq_bind, Option.bind_eq_some_iff, Option.pure_def, Option.some.injEq] at h1
   obtain ⟨v, h1, us, h3, rfl⟩ := h1
   exact ⟨v, h1, us, h3, h2⟩
def nthK : List V -> Nat -> (V -> Prop) -> Prop
 | [], _, _ => False
 | v :: _, 0, K => K v
 | _ :: vs, n + 1, K => nthK vs n K
theorem lD0 (K : V -> Prop) : ∀ (vs : List V) (n : Nat), nthK vs n K = ∃ v, vs[n]? = some v /\ K v
 | [], n => by simp [nthK]
 | v :: vs, 0 => by simp [nthK]
 | v :: vs, n + 1 => by simp [nthK, lD0 K vs n]
def objK : Hp -> Id -> (Ob -> Prop) -> Prop
 | [], _, _ => False
 | (i, o) :: hp, j, K => if j = i then K o else objK hp j K
theorem iI0 (j : Id) (K : Ob -> Prop) : ∀ hp : Hp, objK hp j K = ∃ o, hp.lookup j = some o /\ K o
 | [] => by simp [objK]
 | (i, o) :: hp => by
  simp only [objK, List.lookup_cons]
  by_cases h : j = i
  ·subst h; simp
  ·have : (j == i) = false := by simpa using h
   rw [if_neg h, this, iI0 j K hp]
def boxK : Ob -> (List V -> Prop) -> Prop
 | .box cs, K => K cs
 | _, _ => False
def rowK : Ob -> (Nat -> Nat -> Bool -> List (List V) -> Prop) -> Prop
 | .row ty sz own xs, K => K ty sz own xs
 | _, _ => False
def gr0 (xs : List (List V)) (k : Nat) (K : List V -> Prop) : Prop := ∃ e, xs[k]? = some e /\ K e
theorem ro0 (i : Id) (K : List V -> Prop) : (objK hp i fun o => boxK o K) = ∃ cs, hp.lookup i = some (.box cs) /\ K cs := by
 rw [iI0]
 apply propext
 constructor
 ·rintro ⟨o, h1, h2⟩
  cases o with
  | box cs => exact ⟨cs, h1, h2⟩
  | _ => exact h2.elim
 ·rintro ⟨cs, h1, h2⟩; exact ⟨_, h1, h2⟩
theorem dQ0 (i : Id) (K : Nat -> Nat -> Bool -> List (List V) -> Prop) : (objK hp i fun o => rowK o K) = ∃ ty sz own xs, hp.lookup i = some (.row ty sz own xs) /\ K ty sz own xs := by
 rw [iI0]
 apply propext
 constructor
 ·rintro ⟨o, h1, h2⟩
  cases o with
  | row ty sz own xs => exact ⟨ty, sz, own, xs, h1, h2⟩
  | _ => exact h2.elim
 ·rintro ⟨ty, sz, own, xs, h1, h2⟩; exact ⟨_, h1, h2⟩
def bg0 : V -> (Bool -> Prop) -> Prop
 | .c (.bool b), K => K b
 | _, _ => False
theorem r70 (K : Bool -> Prop) (o : Option V) : (∃ v, o = some v /\ bg0 v K) = ∃ b, o = some (.c (.bool b)) /\ K b := by
 apply propext
 constructor
 ·rintro ⟨v, h1, h2⟩
  cases v with
  | c x => cases x <;> first | exact h2.elim | exact ⟨_, h1, h2⟩
  | _ => exact h2.elim
 ·rintro ⟨b, h1, h2⟩; exact ⟨_, h1, h2⟩
def intK : V -> (IntKind -> Int -> Prop) -> Prop
 | .c (.int k n), K => K k n
 | _, _ => False
theorem rz0 (K : IntKind -> Int -> Prop) (o : Option V) : (∃ v, o = some v /\ intK v K) = ∃ k n, o = some (.c (.int k n)) /\ K k n := by
 apply propext
 constructor
 ·rintro ⟨v, h1, h2⟩
  cases v with
  | c x => cases x <;> first | exact h2.elim | exact ⟨_, _, h1, h2⟩
  | _ => exact h2.elim
 ·rintro ⟨k, n, h1, h2⟩; exact ⟨_, h1, h2⟩
def strK : V -> (ByteArray -> Prop) -> Prop
 | .c (.string s), K => K s
 | _, _ => False
theorem strK_eq (K : ByteArray -> Prop) (o : Option V) : (∃ v, o = some v /\ strK v K) = ∃ s, o = some (.c (.string s)) /\ K s := by
 apply propext
 constructor
 ·rintro ⟨v, h1, h2⟩
  cases v with
  | c x => cases x <;> first | exact h2.elim | exact ⟨_, h1, h2⟩
  | _ => exact h2.elim
 ·rintro ⟨s, h1, h2⟩; exact ⟨_, h1, h2⟩
def aggK : V -> (List V -> Prop) -> Prop
 | .agg cs, K => K cs
 | _, _ => False
theorem aggK_eq (K : List V -> Prop) (o : Option V) : (∃ v, o = some v /\ aggK v K) = ∃ cs, o = some (.agg cs) /\ K cs := by
 apply propext
 constructor
 ·rintro ⟨v, h1, h2⟩
  cases v <;> first | exact h2.elim | exact ⟨_, h1, h2⟩
 ·rintro ⟨s, h1, h2⟩; exact ⟨_, h1, h2⟩
def fnK : V -> (Nat -> List V -> Prop) -> Prop
 | .fn f cs, K => K f cs
 | _, _ => False
def ifcK : V -> (Nat -> V -> Prop) -> Prop
 | .ifc t v, K => K t v
 | _, _ => False
theorem ifcK_eq (K : Nat -> V -> Prop) (o : Option V) : (∃ v, o = some v /\ ifcK v K) = ∃ t u, o = some (.ifc t u) /\ K t u := by
 apply propext
 constructor
 ·rintro ⟨v, h1, h2⟩
  cases v <;> first | exact h2.elim | exact ⟨_, _, h1, h2⟩
 ·rintro ⟨f, s, h1, h2⟩; exact ⟨_, h1, h2⟩
def aw0 (v : V) (K : List V -> Prop) : Prop := ∃ us, v.cells = some us /\ K us
def ldK (hp : Hp) : V -> (V -> Prop) -> Prop
 | .rp cs, K => nthK cs 0 K
 | .bp i off, K => objK hp i fun o => boxK o fun cs => nthK cs off K
 | .ep i k off, K => objK hp i fun o => rowK o fun _ _ _ xs => gr0 xs k fun e => nthK e off K
 | _, _ => False
theorem ldK_eq (v : V) (K : V -> Prop) : ldV hp v K = ldK hp v K := by
 cases v <;> simp only [ldV, ldK, ro0, dQ0, lD0, gr0]
def ldaK (hp : Hp) (sz : Nat) : V -> (V -> Prop) -> Prop
 | .rp cs, K => sz <= cs.length /\ K (.agg (cs.take sz))
 | .bp i off, K => objK hp i fun o => boxK o fun cs => off + sz <= cs.length /\ K (.agg ((cs.drop off).take sz))
 | .ep i k off, K => objK hp i fun o => rowK o fun _ _ _ xs => gr0 xs k fun e => off + sz <= e.length /\ K (.agg ((e.drop off).take sz))
 | _, _ => False
theorem ldaK_eq (v : V) (sz : Nat) (K : V -> Prop) : ldaV hp sz v K = ldaK hp sz v K := by
 cases v <;> simp only [ldaV, ldaK, ro0, dQ0, gr0]
def iaK (hp : Hp) (sz : Nat) : V -> Int -> (V -> Prop) -> Prop
 | .lst xs, i, K => 0 <= i /\ gr0 xs i.toNat fun e => e.length = sz /\ K (.rp e)
 | .arr id o n, i, K => 0 <= i /\ i < n /\ objK hp id fun ob => rowK ob fun _ sz' _ _ => sz' = sz /\ K (.ep id (o + i.toNat) 0)
 | _, _, _ => False
theorem iaK_eq (v u : V) (sz : Nat) (K : V -> Prop) : iaV hp sz v u K = intK u fun _ i => iaK hp sz v i K := by
 unfold iaV
 split
 ·simp only [intK, iaK, gr0]
  apply propext
  constructor
  ·rintro ⟨e, h1, h2, h3, h4⟩; exact ⟨h1, e, h2, h3, h4⟩
  ·rintro ⟨h1, e, h2, h3, h4⟩; exact ⟨e, h1, h2, h3, h4⟩
 ·simp only [intK, iaK, dQ0]
  apply propext
  constructor
  ·rintro ⟨h1, h2, ⟨ty, own, xs, h3⟩, h4⟩; exact ⟨h1, h2, ty, _, own, xs, h3, rfl, h4⟩
  ·rintro ⟨h1, h2, ty, sz', own, xs, h3, rfl, h4⟩; exact ⟨h1, h2, ⟨ty, own, xs, h3⟩, h4⟩
 ·rename_i h1 h2
  apply propext
  constructor
  ·exact False.elim
  ·intro h
   cases u with
   | c x =>
    cases x <;> try exact h.elim
    cases v <;> first | exact h.elim | exact (h1 _ _ _ rfl rfl).elim | exact (h2 _ _ _ _ _ rfl rfl).elim
   | _ => exact h.elim
def srcK (hp : Hp) (sz : Nat) : V -> (List (List V) -> Prop) -> Prop
 | .nil, K => K []
 | .lst ys, K => (ys = [] \/ ∃ e, ys[0]? = some e /\ e.length = sz) /\ K ys
 | .arr j o m, K => objK hp j fun ob => rowK ob fun _ sz' _ xs => sz' = sz /\ o + m <= xs.length /\ K ((xs.drop o).take m)
 | _, _ => False
theorem rW0 (v : V) (sz : Nat) (K : List (List V) -> Prop) : srcV hp sz v K = srcK hp sz v K := by
 cases v <;> simp only [srcV, srcK, dQ0]
 apply propext
 constructor
 ·rintro ⟨ty, own, xs, h1, h2, h3⟩; exact ⟨ty, _, own, xs, h1, rfl, h2, h3⟩
 ·rintro ⟨ty, sz', own, xs, h1, rfl, h2, h3⟩; exact ⟨ty, own, xs, h1, h2, h3⟩
def stK (hp : Hp) (us : List V) : V -> (Hp -> Prop) -> Prop
 | .bp i off, K => objK hp i fun o => boxK o fun cs => off + us.length <= cs.length /\ K (Hp.set i (.box (setAt cs off us)) hp)
 | .ep i k off, K => objK hp i fun o => rowK o fun ty sz own xs => own = true /\ gr0 xs k fun e => off + us.length <= e.length /\ V.bD0 us = true /\ K (Hp.set i (.row ty sz true (xs.set k (setAt e off us))) hp)
 | _, _ => False
theorem stK_eq (v : V) (us : List V) (K : Hp -> Prop) : stV hp us v K = stK hp us v K := by
 cases v <;> simp only [stV, stK, ro0, dQ0, gr0]
 apply propext
 constructor
 ·rintro ⟨ty, sz, xs, h1, h2⟩; exact ⟨ty, sz, true, xs, h1, rfl, h2⟩
 ·rintro ⟨ty, sz, own, xs, h1, rfl, h2⟩; exact ⟨ty, sz, xs, h1, h2⟩
def appK (env : Env) (hp : Hp) (ty sz bytes d : Nat) (v u : V) (K : Env -> Hp -> Prop) : Prop :=
 match v with
 | .nil => srcK hp sz u fun es => es.length * bytes <= 140737488355328 /\
   K ((Env.kill (.l d 0) env).put (some d) (.arr (.l d 0) 0 es.length)) ((.l d 0, .row ty sz true es) :: Hp.kill (.l d 0) hp)
 | .arr i o m => o = 0 /\ objK hp i fun ob => rowK ob fun ty' sz' own xs => ty' = ty /\ sz' = sz /\ own = true /\ m <= xs.length /\ srcK hp sz u fun es => (m + es.length) * bytes <= 140737488355328 /\
   K ((Env.kill (.l d 0) env).put (some d) (.arr (.l d 0) 0 (m + es.length))) ((.l d 0, .row ty sz true (xs.take m ++ es)) :: Hp.kill (.l d 0) (Hp.set i .gone hp))
 | .arc i o m c => srcK hp sz u.hV0 fun es => o = 0 /\ m <= c /\ objK hp i fun ob => rowK ob fun ty' sz' own xs => ty' = ty /\ sz' = sz /\ own = true /\ c <= xs.length /\
   (m + es.length <= c -> 0 < c /\ K (env.put (some d) (.arc i 0 (m + es.length) c)) (Hp.set i (.row ty sz true (xs.take m ++ es ++ xs.drop (m + es.length))) hp)) /\
   (¬ m + es.length <= c -> (m + es.length) * bytes <= 140737488355328 /\ K ((Env.kill (.l d 0) env).put (some d) (.arr (.l d 0) 0 (m + es.length))) ((.l d 0, .row ty sz true (xs.take m ++ es)) :: Hp.kill (.l d 0) hp))
 | _ => False
theorem r50 {i : Id} {o m c ty sz bytes d : Nat} {es : List (List V)} {K : Env -> Hp -> Prop} : arcV env hp ty sz bytes d (.arc i o m c) es K = (o = 0 /\ m <= c /\ objK hp i fun ob => rowK ob fun ty' sz' own xs => ty' = ty /\ sz' = sz /\ own = true /\ c <= xs.length /\
   (m + es.length <= c -> 0 < c /\ K (env.put (some d) (.arc i 0 (m + es.length) c)) (Hp.set i (.row ty sz true (xs.take m ++ es ++ xs.drop (m + es.length))) hp)) /\
   (¬ m + es.length <= c -> (m + es.length) * bytes <= 140737488355328 /\ K ((Env.kill (.l d 0) env).put (some d) (.arr (.l d 0) 0 (m + es.length))) ((.l d 0, .row ty sz true (xs.take m ++ es)) :: Hp.kill (.l d 0) hp))) := by
 simp only [arcV, dQ0]
 apply propext
 constructor
 ·rintro ⟨h0, h1, xs, h2, h3, h4, h5⟩; exact ⟨h0, h1, ty, sz, true, xs, h2, rfl, rfl, rfl, h3, h4, h5⟩
 ·rintro ⟨h0, h1, ty', sz', own, xs, h2, rfl, rfl, rfl, h3, h4, h5⟩; exact ⟨h0, h1, xs, h2, h3, h4, h5⟩
theorem appK_eq (ty sz bytes d : Nat) (v u : V) (K : Env -> Hp -> Prop) : appW env hp ty sz bytes d v u K = appK env hp ty sz bytes d v u K := by
 cases v <;> simp only [appW, appV, appK, rl0, r50, rW0, dQ0]
 apply propext
 constructor
 ·rintro ⟨h0, xs, h1, h2⟩; exact ⟨h0, ty, sz, true, xs, h1, rfl, rfl, rfl, h2⟩
 ·rintro ⟨h0, ty', sz', own, xs, h1, rfl, rfl, rfl, h2⟩; exact ⟨h0, xs, h1, h2⟩
def mpoK : Ob -> (Option IntKind -> List (Value × V) -> Prop) -> Prop
 | .mpo kd kvs, K => K kd kvs
 | _, _ => False
theorem mpoK_eq (i : Id) (K : Option IntKind -> List (Value × V) -> Prop) : (objK hp i fun o => mpoK o K) = ∃ kd kvs, hp.lookup i = some (.mpo kd kvs) /\ K kd kvs := by
 rw [iI0]
 apply propext
 constructor
 ·rintro ⟨o, h1, h2⟩
  cases o with
  | mpo kd kvs => exact ⟨kd, kvs, h1, h2⟩
  | _ => exact h2.elim
 ·rintro ⟨kd, kvs, h1, h2⟩; exact ⟨_, h1, h2⟩
def pvK (env : Env) (hp : Hp) : IOp -> (V -> Prop) -> Prop
 | .mv x, K => evK env x K
 | .pick c a b, K => evK env c fun v => bg0 v fun t => (t = true -> evK env a K) /\ (t = false -> evK env b K)
 | .ld x, K => evK env x fun v => ldK hp v K
 | .lda sz x, K => evK env x fun v => ldaK hp sz v K
 | .nchk x, K => evK env x fun v => n60 v K
 | .bin op x y, K => evK env x fun v => evK env y fun u => binV op v u K
 | .binb ne x y, K => evK env x fun v => evK env y fun u => nX0 ne v u K
 | .un op x, K => evK env x fun v => unV op v K
 | .conv k x, K => evK env x fun v => intK v fun _ n => K (.c (.int k (k.wrap n)))
 | .mkfn f cs, K => evsK env cs fun vs => K (.fn f vs)
 | .mkif t x, K => evK env x fun v => K (.ifc t v)
 | .slS x lo hi, K => evK env x fun v => slSV v (lo.map (Env.ev env)) (hi.map (Env.ev env)) K
 | .slL sz x lo hi, K => evK env x fun v => slLV hp sz v (lo.map (Env.ev env)) (hi.map (Env.ev env)) K
 | .fa off x, K => evK env x fun v => faV off v K
 | .fld off x, K => evK env x fun v => aggK v fun cs => nthK cs off K
 | .flda off sz x, K => evK env x fun v => aggK v fun cs => off + sz <= cs.length /\ K (.agg ((cs.drop off).take sz))
 | .ia sz x i, K => evK env x fun v => evK env i fun u => intK u fun _ i => iaK hp sz v i K
 | .ixS x i, K => evK env x fun v => evK env i fun u => ixSV v u K
 | .ext x i, K => evK env x fun v => extV i v K
 | .len x, K => evK env x fun v => lenV v K
 | .lenS x, K => evK env x fun v => strK v fun s => K (.c (.int .i64 (s.size : Int)))
 | .mx x y, K => evK env x fun v => intK v fun k a => evK env y fun u => intK u fun _ b => K (.c (.int k (if b > a then b else a)))
 | .mn x y, K => evK env x fun v => intK v fun k a => evK env y fun u => intK u fun _ b => K (.c (.int k (if b < a then b else a)))
 | .build z ps, K => hI0 (Env.ev env) ps z fun cs => K (.agg cs)
 | .ta t z x, K => evK env x fun v => taV t z v K
 | .isni ng x, K => evK env x fun v => qM0 v fun b => K (.c (.bool (if ng then !b else b)))
 | .ixA n x i, K => evK env x fun v => aggK v fun cs => evK env i fun u => ixAV n cs u K
 | _, _ => False
theorem by0 (op : IOp) (K : V -> Prop) : pv hp (Env.ev env) op K = pvK env hp op K := by
 cases op
 case ia sz x i =>
  simp only [pv, pvK, b20, iaK_eq]
  apply propext
  constructor
  ·rintro ⟨v, u, h1, h2, h3⟩; exact ⟨v, h1, u, h2, h3⟩
  ·rintro ⟨v, h1, u, h2, h3⟩; exact ⟨v, u, h1, h2, h3⟩
 case ixA m x i =>
  simp only [pv, pvK, b20, aggK_eq]
  apply propext
  constructor
  ·rintro ⟨cs, u, h1, h2, h3⟩; exact ⟨cs, h1, u, h2, h3⟩
  ·rintro ⟨cs, h1, u, h2, h3⟩; exact ⟨cs, u, h1, h2, h3⟩
 all_goals simp only [pv, pvK, b20, lm0, r70, ldK_eq, ldaK_eq, rz0, strK_eq, aggK_eq, lD0]
 all_goals
  first
   | rfl
   | (apply propext
      constructor
      ·rintro ⟨v, u, h1, h2, h3⟩; exact ⟨v, h1, u, h2, h3⟩
      ·rintro ⟨v, h1, u, h2, h3⟩; exact ⟨v, u, h1, h2, h3⟩)
   | (apply propext
      constructor
      ·rintro ⟨k, k', a, b, h1, h2, h3⟩; exact ⟨k, a, h1, k', b, h2, h3⟩
      ·rintro ⟨k, a, h1, k', b, h2, h3⟩; exact ⟨k, k', a, b, h1, h2, h3⟩)
end Go.Am
end

section
namespace Go.Am
universe u v
variable {P : Program} {n : Nat} {env : Env} {hp : Hp}
structure Tg {α : Sort u} (K : α) : Type where
def hold {α : Sort u} (K : α) (t : Tg K := ⟨⟩) : α := K
@[simp] theorem hold_app {α : Sort u} {β : Sort v} (K : α -> β) (t : Tg K) (x : α) : hold K t x = K x := _root_.id rfl
def iteK (b : Bool) (A B : Prop) : Prop := (b = true -> A) /\ (b = false -> B)
@[simp] theorem iteK_true {A B : Prop} {t : Tg A} {t' : Tg B} : iteK true (hold A t) (hold B t') = A := by simp [iteK, hold]
@[simp] theorem iteK_false {A B : Prop} {t : Tg A} {t' : Tg B} : iteK false (hold A t) (hold B t') = B := by simp [iteK, hold]
@[simp] theorem iteK_not {b : Bool} {A B : Prop} : iteK (!b) A B = iteK b B A := by cases b <;> simp [iteK]
@[simp] theorem iteK_dec {p : Prop} [Decidable p] {A B : Prop} {t : Tg A} {t' : Tg B} : iteK (decide p) (hold A t) (hold B t') = ((p -> A) /\ (¬ p -> B)) := by simp [iteK, hold]
@[simp low] theorem iteK_var {b : Bool} {A B : Prop} {t : Tg A} {t' : Tg B} : iteK b (hold A t) (hold B t') = ((b = true -> A) /\ (b = false -> B)) := by simp [iteK, hold]
theorem iteK_want {b want : Bool} {A B : Prop} : iteK (b == want) A B = ((b = want -> A) /\ (b ≠ want -> B)) := by cases b <;> cases want <;> simp [iteK]
section ops
variable {d : Option Nat} {s : Nat} {K : Env -> Hp -> Prop} {Kp : V -> Hp -> Prop}
@[simp] theorem vcOp_mv_h {x} : vcOp P env hp d (.mv x) K Kp = evK env x (hold fun v => K (env.put d v) hp) := by0 (env := env) (hp := hp) (.mv x) fun v => K (env.put d v) hp
@[simp] theorem vcOp_pick_h {c a b} : vcOp P env hp d (.pick c a b) K Kp = evK env c (hold fun v => bg0 v (hold fun t => iteK t (hold (evK env a (hold fun v => K (env.put d v) hp))) (hold (evK env b (hold fun v => K (env.put d v) hp))))) := by0 (env := env) (hp := hp) (.pick c a b) fun v => K (env.put d v) hp
@[simp] theorem vcOp_ld_h {x} : vcOp P env hp d (.ld x) K Kp = evK env x (hold fun v => ldK hp v (hold fun v => K (env.put d v) hp)) := by0 (env := env) (hp := hp) (.ld x) fun v => K (env.put d v) hp
@[simp] theorem vcOp_lda_h {sz x} : vcOp P env hp d (.lda sz x) K Kp = evK env x (hold fun v => ldaK hp sz v (hold fun v => K (env.put d v) hp)) := by0 (env := env) (hp := hp) (.lda sz x) fun v => K (env.put d v) hp
@[simp] theorem vcOp_nchk_h {x} : vcOp P env hp d (.nchk x) K Kp = evK env x (hold fun v => n60 v (hold fun v => K (env.put d v) hp)) := by0 (env := env) (hp := hp) (.nchk x) fun v => K (env.put d v) hp
@[simp] theorem vcOp_bin_h {op x y} : vcOp P env hp d (.bin op x y) K Kp = evK env x (hold fun v => evK env y (hold fun u => binV op v u (hold fun v => K (env.put d v) hp))) := by0 (env := env) (hp := hp) (.bin op x y) fun v => K (env.put d v) hp
@[simp] theorem vcOp_binb_h {ne x y} : vcOp P env hp d (.binb ne x y) K Kp = evK env x (hold fun v => evK env y (hold fun u => nX0 ne v u (hold fun v => K (env.put d v) hp))) := by0 (env := env) (hp := hp) (.binb ne x y) fun v => K (env.put d v) hp
@[simp] theorem vcOp_un_h {op x} : vcOp P env hp d (.un op x) K Kp = evK env x (hold fun v => unV op v (hold fun v => K (env.put d v) hp)) := by0 (env := env) (hp := hp) (.un op x) fun v => K (env.put d v) hp
@[simp] theorem vcOp_mkfn_h {f cs} : vcOp P env hp d (.mkfn f cs) K Kp = evsK env cs (hold fun vs => K (env.put d (.fn f vs)) hp) := by0 (env := env) (hp := hp) (.mkfn f cs) fun v => K (env.put d v) hp
@[simp] theorem vcOp_mkif_h {t x} : vcOp P env hp d (.mkif t x) K Kp = evK env x (hold fun v => K (env.put d (.ifc t v)) hp) := by0 (env := env) (hp := hp) (.mkif t x) fun v => K (env.put d v) hp
@[simp] theorem vcOp_ta_h {t z x} : vcOp P env hp d (.ta t z x) K Kp = evK env x (hold fun v => taV t z v (hold fun v => K (env.put d v) hp)) := by0 (env := env) (hp := hp) (.ta t z x) fun v => K (env.put d v) hp
@[simp] theorem vcOp_isni_h {ng x} : vcOp P env hp d (.isni ng x) K Kp = evK env x (hold fun v => qM0 v (hold fun b => K (env.put d (.c (.bool (if ng then !b else b)))) hp)) := by0 (env := env) (hp := hp) (.isni ng x) fun v => K (env.put d v) hp
@[simp] theorem vcOp_ixA_h {m x i} : vcOp P env hp d (.ixA m x i) K Kp = evK env x (hold fun v => aggK v (hold fun cs => evK env i (hold fun u => ixAV m cs u (hold fun v => K (env.put d v) hp)))) := by0 (env := env) (hp := hp) (.ixA m x i) fun v => K (env.put d v) hp
@[simp] theorem vcOp_slS_h {x lo hi} : vcOp P env hp d (.slS x lo hi) K Kp = evK env x (hold fun v => slSV v (lo.map (Env.ev env)) (hi.map (Env.ev env)) (hold fun v => K (env.put d v) hp)) := by0 (env := env) (hp := hp) (.slS x lo hi) fun v => K (env.put d v) hp
@[simp] theorem vcOp_slL_h {sz x lo hi} : vcOp P env hp d (.slL sz x lo hi) K Kp = evK env x (hold fun v => slLV hp sz v (lo.map (Env.ev env)) (hi.map (Env.ev env)) (hold fun v => K (env.put d v) hp)) := by0 (env := env) (hp := hp) (.slL sz x lo hi) fun v => K (env.put d v) hp
@[simp] theorem vcOp_fa_h {off x} : vcOp P env hp d (.fa off x) K Kp = evK env x (hold fun v => faV off v (hold fun v => K (env.put d v) hp)) := by0 (env := env) (hp := hp) (.fa off x) fun v => K (env.put d v) hp
@[simp] theorem vcOp_ia_h {sz x i} : vcOp P env hp d (.ia sz x i) K Kp = evK env x (hold fun v => evK env i (hold fun u => intK u (hold fun _ i => iaK hp sz v i (hold fun v => K (env.put d v) hp)))) := by0 (env := env) (hp := hp) (.ia sz x i) fun v => K (env.put d v) hp
@[simp] theorem vcOp_ixS_h {x i} : vcOp P env hp d (.ixS x i) K Kp = evK env x (hold fun v => evK env i (hold fun u => ixSV v u (hold fun v => K (env.put d v) hp))) := by0 (env := env) (hp := hp) (.ixS x i) fun v => K (env.put d v) hp
@[simp] theorem vcOp_ext_h {x i} : vcOp P env hp d (.ext x i) K Kp = evK env x (hold fun v => extV i v (hold fun v => K (env.put d v) hp)) := by0 (env := env) (hp := hp) (.ext x i) fun v => K (env.put d v) hp
@[simp] theorem vcOp_len_h {x} : vcOp P env hp d (.len x) K Kp = evK env x (hold fun v => lenV v (hold fun v => K (env.put d v) hp)) := by0 (env := env) (hp := hp) (.len x) fun v => K (env.put d v) hp
@[simp] theorem vcOp_lenS_h {x} : vcOp P env hp d (.lenS x) K Kp = evK env x (hold fun v => strK v (hold fun s => K (env.put d (.c (.int .i64 (s.size : Int)))) hp)) := by0 (env := env) (hp := hp) (.lenS x) fun v => K (env.put d v) hp
@[simp] theorem vcOp_mx_h {x y} : vcOp P env hp d (.mx x y) K Kp = evK env x (hold fun v => intK v (hold fun k a => evK env y (hold fun u => intK u (hold fun _ b => K (env.put d (.c (.int k (if b > a then b else a)))) hp)))) := by0 (env := env) (hp := hp) (.mx x y) fun v => K (env.put d v) hp
@[simp] theorem vcOp_mn_h {x y} : vcOp P env hp d (.mn x y) K Kp = evK env x (hold fun v => intK v (hold fun k a => evK env y (hold fun u => intK u (hold fun _ b => K (env.put d (.c (.int k (if b < a then b else a)))) hp)))) := by0 (env := env) (hp := hp) (.mn x y) fun v => K (env.put d v) hp
@[simp] theorem vcOp_build_h {z ps} : vcOp P env hp d (.build z ps) K Kp = hI0 (Env.ev env) ps z (hold fun cs => K (env.put d (.agg cs)) hp) := by0 (env := env) (hp := hp) (.build z ps) fun v => K (env.put d v) hp
theorem te0 {z} : vcOp P env hp (some s) (.alloc z) K Kp = K ((Env.kill (.l s 0) env).put (some s) (.bp (.l s 0) 0)) ((.l s 0, .box z) :: Hp.kill (.l s 0) hp) := by
 simp only [vcOp]; apply propext; exact ⟨fun ⟨_, e, h⟩ => by injection e with e; subst e; exact h, fun h => ⟨s, rfl, h⟩⟩
theorem vcOp_box {sz x} : vcOp P env hp (some s) (.box sz x) K Kp = evK env x fun v => aw0 v fun us => K ((Env.kill (.l s 0) env).put (some s) (.bp (.l s 0) 0)) ((.l s 0, .box (us.map (V.kill (.l s 0)))) :: Hp.kill (.l s 0) hp) := by
 simp only [vcOp, b20, aw0]; apply propext
 exact ⟨fun ⟨_, v, us, e, h1, h2, h⟩ => by injection e with e; subst e; exact ⟨v, h1, us, h2, h⟩, fun ⟨v, h1, us, h2, h⟩ => ⟨s, v, us, rfl, h1, h2, h⟩⟩
@[simp] theorem vcOp_box_h {sz x} : vcOp P env hp (some s) (.box sz x) K Kp = evK env x (hold fun v => aw0 v (hold fun us => K ((Env.kill (.l s 0) env).put (some s) (.bp (.l s 0) 0)) ((.l s 0, .box (us.map (V.kill (.l s 0)))) :: Hp.kill (.l s 0) hp))) := vcOp_box
theorem vcOp_mks {ty sz bytes z l c} : vcOp P env hp (some s) (.mks ty sz bytes z l c) K Kp = evK env l fun v => intK v fun _ li => evK env c fun u => intK u fun _ ci => 0 <= li /\ li <= ci /\ ci * bytes <= 281474976710656 /\ ci <= 281474976710656 /\
   K ((Env.kill (.l s 0) env).put (some s) (.arr (.l s 0) 0 li.toNat)) ((.l s 0, .row ty sz true (List.replicate li.toNat z)) :: Hp.kill (.l s 0) hp) := by
 simp only [vcOp, b20, rz0]; apply propext
 exact ⟨fun ⟨_, kl, kc, li, ci, e, h1, h2, h⟩ => by injection e with e; subst e; exact ⟨kl, li, h1, kc, ci, h2, h⟩, fun ⟨kl, li, h1, kc, ci, h2, h⟩ => ⟨s, kl, kc, li, ci, rfl, h1, h2, h⟩⟩
@[simp] theorem vcOp_mks_h {ty sz bytes z l c} : vcOp P env hp (some s) (.mks ty sz bytes z l c) K Kp = evK env l (hold fun v => intK v (hold fun _ li => evK env c (hold fun u => intK u (hold fun _ ci => 0 <= li /\ li <= ci /\ ci * bytes <= 281474976710656 /\ ci <= 281474976710656 /\
   K ((Env.kill (.l s 0) env).put (some s) (.arr (.l s 0) 0 li.toNat)) ((.l s 0, .row ty sz true (List.replicate li.toNat z)) :: Hp.kill (.l s 0) hp))))) := vcOp_mks
theorem vcOp_st {sz x y} : vcOp P env hp none (.st sz x y) K Kp = evK env x fun u => evK env y fun v => aw0 v fun us => us.length = sz /\ scalars us = true /\ stK hp us u fun hp' => K env hp' := by
 simp only [vcOp, b20, aw0, stK_eq]; apply propext
 exact ⟨fun ⟨_, u, v, us, h1, h2, h3, h4⟩ => ⟨u, h1, v, h2, us, h3, h4⟩, fun ⟨u, h1, v, h2, us, h3, h4⟩ => ⟨trivial, u, v, us, h1, h2, h3, h4⟩⟩
@[simp] theorem vcOp_st_h {sz x y} : vcOp P env hp none (.st sz x y) K Kp = evK env x (hold fun u => evK env y (hold fun v => aw0 v (hold fun us => us.length = sz /\ scalars us = true /\ stK hp us u (hold fun hp' => K env hp')))) := vcOp_st
theorem vcOp_app {ty sz bytes x y} : vcOp P env hp (some s) (.app ty sz bytes x y) K Kp = evK env x fun v => evK env y fun u => appK env hp ty sz bytes s v u K := by
 simp only [vcOp, b20, appK_eq]; apply propext
 exact ⟨fun ⟨_, v, u, e, h1, h2, h⟩ => by injection e with e; subst e; exact ⟨v, h1, u, h2, h⟩, fun ⟨v, h1, u, h2, h⟩ => ⟨s, v, u, rfl, h1, h2, h⟩⟩
@[simp] theorem vcOp_app_h {ty sz bytes x y} : vcOp P env hp (some s) (.app ty sz bytes x y) K Kp = evK env x (hold fun v => evK env y (hold fun u => appK env hp ty sz bytes s v u K)) := vcOp_app
def at0 (us : List V) (K : List (List V) -> Prop) : Prop := ∃ els, us.mapM V.cells = some els /\ K els
theorem tg0 {ty sz xs} : vcOp P env hp (some s) (.mkrow ty sz xs) K Kp = evsK env xs fun vs => V.seeL false [] (Hp.frz (.tup vs) hp) vs fun us => at0 us fun els => els.all (fun e => e.length == sz && scalars e && V.bD0 e) = true /\
  K ((Env.kill (.l s 0) env).put (some s) (.arr (.l s 0) 0 els.length)) ((.l s 0, .row ty sz true els) :: Hp.kill (.l s 0) (Hp.frz (.tup vs) hp)) := by
 simp only [vcOp, mkrowV, lm0, at0]; apply propext
 exact ⟨fun ⟨_, e, vs, h1, h⟩ => by injection e with e; subst e; exact ⟨vs, h1, h⟩, fun ⟨vs, h1, h⟩ => ⟨s, rfl, vs, h1, h⟩⟩
@[simp] theorem vcOp_mkrow_h {ty sz xs} : vcOp P env hp (some s) (.mkrow ty sz xs) K Kp = evsK env xs (hold fun vs => V.seeL false [] (Hp.frz (.tup vs) hp) vs (hold fun us => at0 us (hold fun els => els.all (hold fun e => e.length == sz && scalars e && V.bD0 e) = true /\
  K ((Env.kill (.l s 0) env).put (some s) (.arr (.l s 0) 0 els.length)) ((.l s 0, .row ty sz true els) :: Hp.kill (.l s 0) (Hp.frz (.tup vs) hp))))) := tg0
theorem vcOp_pan {x} : vcOp P env hp d (.pan x) K Kp = evK env x fun v => ifcK v fun t u => Kp (.ifc t u) hp := by
 simp only [vcOp, b20, ifcK_eq]
@[simp] theorem vcOp_pan_h {x} : vcOp P env hp d (.pan x) K Kp = evK env x (hold fun v => ifcK v (hold fun t u => Kp (.ifc t u) hp)) := vcOp_pan
theorem vcOp_isnl {ng x} : vcOp P env hp d (.isnl ng x) K Kp = evK env x fun v => qN0 v fun b => K (env.put d (.c (.bool (if ng then !b else b)))) hp := by
 simp only [vcOp, b20]
@[simp] theorem vcOp_isnl_h {ng x} : vcOp P env hp d (.isnl ng x) K Kp = evK env x (hold fun v => qN0 v (hold fun b => K (env.put d (.c (.bool (if ng then !b else b)))) hp)) := vcOp_isnl
theorem vcOp_cpy {sz x y} : vcOp P env hp d (.cpy sz x y) K Kp = evK env x fun v => evK env y fun u => cpyV hp sz v u fun k hp' => K (env.put d (.c (.int .i64 k))) hp' := by
 simp only [vcOp, b20]; apply propext
 exact ⟨fun ⟨v, u, h1, h2, h⟩ => ⟨v, h1, u, h2, h⟩, fun ⟨v, h1, u, h2, h⟩ => ⟨v, u, h1, h2, h⟩⟩
@[simp] theorem vcOp_cpy_h {sz x y} : vcOp P env hp d (.cpy sz x y) K Kp = evK env x (hold fun v => evK env y (hold fun u => cpyV hp sz v u (hold fun k hp' => K (env.put d (.c (.int .i64 k))) hp'))) := vcOp_cpy
theorem tf0 {kd} : vcOp P env hp (some s) (.mkmap kd) K Kp = K ((Env.kill (.l s 0) env).put (some s) (.mp (.l s 0))) ((.l s 0, .mpo kd []) :: Hp.kill (.l s 0) hp) := by
 simp only [vcOp, mkmapV]; apply propext
 exact ⟨fun ⟨_, e, h⟩ => by injection e with e; subst e; exact h, fun h => ⟨s, rfl, h⟩⟩
attribute [simp] tf0
theorem vcOp_mput {kd m k x} : vcOp P env hp none (.mput kd m k x) K Kp = evK env m fun vm => evK env k fun vk => evK env x fun vx => qZ0 hp kd vm vk vx fun hp' => K env hp' := by
 simp only [vcOp, b20]; apply propext
 exact ⟨fun ⟨_, vm, vk, vx, h1, h2, h3, h⟩ => ⟨vm, h1, vk, h2, vx, h3, h⟩, fun ⟨vm, h1, vk, h2, vx, h3, h⟩ => ⟨trivial, vm, vk, vx, h1, h2, h3, h⟩⟩
@[simp] theorem vcOp_mput_h {kd m k x} : vcOp P env hp none (.mput kd m k x) K Kp = evK env m (hold fun vm => evK env k (hold fun vk => evK env x (hold fun vx => qZ0 hp kd vm vk vx (hold fun hp' => K env hp')))) := vcOp_mput
theorem vcOp_mget {kd z ok m k} : vcOp P env hp d (.mget kd z ok m k) K Kp = evK env m fun vm => evK env k fun vk => qX0 hp kd z ok vm vk fun v => K (env.put d v) hp := by
 simp only [vcOp, b20]; apply propext
 exact ⟨fun ⟨vm, vk, h1, h2, h⟩ => ⟨vm, h1, vk, h2, h⟩, fun ⟨vm, h1, vk, h2, h⟩ => ⟨vm, vk, h1, h2, h⟩⟩
@[simp] theorem vcOp_mget_h {kd z ok m k} : vcOp P env hp d (.mget kd z ok m k) K Kp = evK env m (hold fun vm => evK env k (hold fun vk => qX0 hp kd z ok vm vk (hold fun v => K (env.put d v) hp))) := vcOp_mget
theorem vcOp_sl3 {x lo hi mx} : vcOp P env hp d (.sl3 x lo hi mx) K Kp = evK env x fun v => sl3V v (some (Env.ev env lo)) (some (Env.ev env hi)) (some (Env.ev env mx)) fun u => K (env.put d u) hp := by
 simp only [vcOp, b20]
@[simp] theorem vcOp_sl3_h {x lo hi mx} : vcOp P env hp d (.sl3 x lo hi mx) K Kp = evK env x (hold fun v => sl3V v (some (Env.ev env lo)) (some (Env.ev env hi)) (some (Env.ev env mx)) (hold fun u => K (env.put d u) hp)) := vcOp_sl3
theorem vcOp_appz {ty sz bytes z x y} : vcOp P env hp (some s) (.appz ty sz bytes z x y) K Kp = evK env x fun v => evK env y fun u => fD0 env hp ty sz bytes z s v u K := by
 simp only [vcOp, b20]; apply propext
 exact ⟨fun ⟨_, v, u, e, h1, h2, h⟩ => by injection e with e; subst e; exact ⟨v, h1, u, h2, h⟩, fun ⟨v, h1, u, h2, h⟩ => ⟨s, v, u, rfl, h1, h2, h⟩⟩
@[simp] theorem vcOp_appz_h {ty sz bytes z x y} : vcOp P env hp (some s) (.appz ty sz bytes z x y) K Kp = evK env x (hold fun v => evK env y (hold fun u => fD0 env hp ty sz bytes z s v u K)) := vcOp_appz
theorem vcOp_clr {sz z x} : vcOp P env hp d (.clr sz z x) K Kp = evK env x fun v => clrV hp sz z v fun hp' => K (env.put d (.tup [])) hp' := by
 simp only [vcOp, b20]
@[simp] theorem vcOp_clr_h {sz z x} : vcOp P env hp d (.clr sz z x) K Kp = evK env x (hold fun v => clrV hp sz z v (hold fun hp' => K (env.put d (.tup [])) hp')) := vcOp_clr
theorem vcOp_capn {x} : vcOp P env hp d (.capn x) K Kp = evK env x fun v => capV v fun c => K (env.put d (.c (.int .i64 c))) hp := by
 simp only [vcOp, b20]
@[simp] theorem vcOp_capn_h {x} : vcOp P env hp d (.capn x) K Kp = evK env x (hold fun v => capV v (hold fun c => K (env.put d (.c (.int .i64 c))) hp)) := vcOp_capn
def bm0 (P : Program) (env : Env) (hp : Hp) (d : Option Nat) (f : Operand) (xs : List Operand) (K : Env -> Hp -> Prop) (Kp : V -> Hp -> Prop) : Prop := callP P env hp d f xs K Kp \/ callX P env hp d f xs K Kp
theorem vcOp_call {f xs} : vcOp P env hp d (.call f xs) K Kp = bm0 P env hp d f xs K Kp := _root_.id rfl
end ops
section anyorder
variable {d : Option Nat} {s : Nat} {K Kp : V -> Option Eff -> Prop}
@[simp] theorem ne_mv_h {x} : ne P hp env d (.mv x) K Kp = evK env x (hold fun v => K v none) := by0 (env := env) (hp := hp) (.mv x) fun v => K v none
@[simp] theorem ne_pick_h {c a b} : ne P hp env d (.pick c a b) K Kp = evK env c (hold fun v => bg0 v (hold fun t => iteK t (hold (evK env a (hold fun v => K v none))) (hold (evK env b (hold fun v => K v none))))) := by0 (env := env) (hp := hp) (.pick c a b) fun v => K v none
@[simp] theorem ne_nchk_h {x} : ne P hp env d (.nchk x) K Kp = evK env x (hold fun v => n60 v (hold fun v => K v none)) := by0 (env := env) (hp := hp) (.nchk x) fun v => K v none
@[simp] theorem ne_bin_h {op x y} : ne P hp env d (.bin op x y) K Kp = evK env x (hold fun v => evK env y (hold fun u => binV op v u (hold fun v => K v none))) := by0 (env := env) (hp := hp) (.bin op x y) fun v => K v none
@[simp] theorem ne_un_h {op x} : ne P hp env d (.un op x) K Kp = evK env x (hold fun v => unV op v (hold fun v => K v none)) := by0 (env := env) (hp := hp) (.un op x) fun v => K v none
@[simp] theorem ne_slS_h {x lo hi} : ne P hp env d (.slS x lo hi) K Kp = evK env x (hold fun v => slSV v (lo.map (Env.ev env)) (hi.map (Env.ev env)) (hold fun v => K v none)) := by0 (env := env) (hp := hp) (.slS x lo hi) fun v => K v none
@[simp] theorem ne_fa_h {off x} : ne P hp env d (.fa off x) K Kp = evK env x (hold fun v => faV off v (hold fun v => K v none)) := by0 (env := env) (hp := hp) (.fa off x) fun v => K v none
@[simp] theorem ne_fld_h {off x} : ne P hp env d (.fld off x) K Kp = evK env x (hold fun v => aggK v (hold fun cs => nthK cs off (hold fun v => K v none))) := by0 (env := env) (hp := hp) (.fld off x) fun v => K v none
@[simp] theorem ne_ext_h {x i} : ne P hp env d (.ext x i) K Kp = evK env x (hold fun v => extV i v (hold fun v => K v none)) := by0 (env := env) (hp := hp) (.ext x i) fun v => K v none
@[simp] theorem ne_len_h {x} : ne P hp env d (.len x) K Kp = evK env x (hold fun v => lenV v (hold fun v => K v none)) := by0 (env := env) (hp := hp) (.len x) fun v => K v none
@[simp] theorem ne_lenS_h {x} : ne P hp env d (.lenS x) K Kp = evK env x (hold fun v => strK v (hold fun s => K (.c (.int .i64 (s.size : Int))) none)) := by0 (env := env) (hp := hp) (.lenS x) fun v => K v none
@[simp] theorem ne_build_h {z ps} : ne P hp env d (.build z ps) K Kp = hI0 (Env.ev env) ps z (hold fun cs => K (.agg cs) none) := by0 (env := env) (hp := hp) (.build z ps) fun v => K v none
theorem pg0 {o : Option V} {p q : V -> Prop} (h : ∀ v, o = some v -> (p v ↔ q v)) : (∃ v, o = some v /\ p v) = ∃ v, o = some v /\ q v :=
 propext ⟨fun ⟨v, h1, h2⟩ => ⟨v, h1, (h v h1).1 h2⟩, fun ⟨v, h1, h2⟩ => ⟨v, h1, (h v h1).2 h2⟩⟩
theorem ne_ld {x} : ne P hp env d (.ld x) K Kp = evK env x fun v => ldK hp v fun u => K u (rdE v.base hp) := by
 simp only [ne, pv, b20]
 exact pg0 fun v h => by simp only [IOp.tch, h, ldK_eq]
@[simp] theorem ne_ld_h {x} : ne P hp env d (.ld x) K Kp = evK env x (hold fun v => ldK hp v (hold fun u => K u (rdE v.base hp))) := ne_ld
theorem ne_lda {sz x} : ne P hp env d (.lda sz x) K Kp = evK env x fun v => ldaK hp sz v fun u => K u (rdE v.base hp) := by
 simp only [ne, pv, b20]
 exact pg0 fun v h => by simp only [IOp.tch, h, ldaK_eq]
@[simp] theorem ne_lda_h {sz x} : ne P hp env d (.lda sz x) K Kp = evK env x (hold fun v => ldaK hp sz v (hold fun u => K u (rdE v.base hp))) := ne_lda
theorem ne_slL {sz x lo hi} : ne P hp env d (.slL sz x lo hi) K Kp = evK env x fun v => slLV hp sz v (lo.map (Env.ev env)) (hi.map (Env.ev env)) fun u => K u (rdE v.base hp) := by
 simp only [ne, pv, b20]
 exact pg0 fun v h => by simp only [IOp.tch, h]
@[simp] theorem ne_slL_h {sz x lo hi} : ne P hp env d (.slL sz x lo hi) K Kp = evK env x (hold fun v => slLV hp sz v (lo.map (Env.ev env)) (hi.map (Env.ev env)) (hold fun u => K u (rdE v.base hp))) := ne_slL
theorem ne_ia {sz x i} : ne P hp env d (.ia sz x i) K Kp = evK env x fun v => evK env i fun u => intK u fun _ i => iaK hp sz v i fun r => K r (rdE v.base hp) := by
 simp only [ne, pv, b20]
 have e : (∃ v u, Env.ev env x = some v /\ Env.ev env i = some u /\ iaV hp sz v u fun v => K v (rdE (IOp.tch (Env.ev env) (.ia sz x i)) hp)) = ∃ v, Env.ev env x = some v /\ ∃ u, Env.ev env i = some u /\ iaV hp sz v u fun v => K v (rdE (IOp.tch (Env.ev env) (.ia sz x i)) hp) :=
  propext ⟨fun ⟨v, u, h1, h2, h3⟩ => ⟨v, h1, u, h2, h3⟩, fun ⟨v, h1, u, h2, h3⟩ => ⟨v, u, h1, h2, h3⟩⟩
 rw [e]
 exact pg0 fun v h => by simp only [IOp.tch, h, iaK_eq]
@[simp] theorem ne_ia_h {sz x i} : ne P hp env d (.ia sz x i) K Kp = evK env x (hold fun v => evK env i (hold fun u => intK u (hold fun _ i => iaK hp sz v i (hold fun r => K r (rdE v.base hp))))) := ne_ia
theorem ne_alloc {z} : ne P hp env (some s) (.alloc z) K Kp = K (.bp (.l s 0) 0) (some ⟨[], [], true, (.l s 0, .box z) :: hp⟩) := by
 simp only [ne]; apply propext
 exact ⟨fun ⟨_, e, h⟩ => by injection e with e; subst e; exact h, fun h => ⟨s, rfl, h⟩⟩
theorem ne_box {sz x} : ne P hp env (some s) (.box sz x) K Kp = evK env x fun v => aw0 v fun us => K (.bp (.l s 0) 0) (some ⟨[], [], true, (.l s 0, .box (us.map (V.kill (.l s 0)))) :: hp⟩) := by
 simp only [ne, b20, aw0]; apply propext
 exact ⟨fun ⟨_, v, us, e, h1, h2, h⟩ => by injection e with e; subst e; exact ⟨v, h1, us, h2, h⟩, fun ⟨v, h1, us, h2, h⟩ => ⟨s, v, us, rfl, h1, h2, h⟩⟩
@[simp] theorem ne_box_h {sz x} : ne P hp env (some s) (.box sz x) K Kp = evK env x (hold fun v => aw0 v (hold fun us => K (.bp (.l s 0) 0) (some ⟨[], [], true, (.l s 0, .box (us.map (V.kill (.l s 0)))) :: hp⟩))) := ne_box
theorem ne_mks {ty sz bytes z l c} : ne P hp env (some s) (.mks ty sz bytes z l c) K Kp = evK env l fun v => intK v fun _ li => evK env c fun u => intK u fun _ ci => 0 <= li /\ li <= ci /\ ci * bytes <= 281474976710656 /\ ci <= 281474976710656 /\
   K (.arr (.l s 0) 0 li.toNat) (some ⟨[], [], true, (.l s 0, .row ty sz true (List.replicate li.toNat z)) :: hp⟩) := by
 simp only [ne, b20, rz0]; apply propext
 exact ⟨fun ⟨_, kl, kc, li, ci, e, h1, h2, h⟩ => by injection e with e; subst e; exact ⟨kl, li, h1, kc, ci, h2, h⟩, fun ⟨kl, li, h1, kc, ci, h2, h⟩ => ⟨s, kl, kc, li, ci, rfl, h1, h2, h⟩⟩
@[simp] theorem ne_mks_h {ty sz bytes z l c} : ne P hp env (some s) (.mks ty sz bytes z l c) K Kp = evK env l (hold fun v => intK v (hold fun _ li => evK env c (hold fun u => intK u (hold fun _ ci => 0 <= li /\ li <= ci /\ ci * bytes <= 281474976710656 /\ ci <= 281474976710656 /\
   K (.arr (.l s 0) 0 li.toNat) (some ⟨[], [], true, (.l s 0, .row ty sz true (List.replicate li.toNat z)) :: hp⟩))))) := ne_mks
theorem ne_mkrow {ty sz xs} : ne P hp env (some s) (.mkrow ty sz xs) K Kp = evsK env xs fun vs => V.seeL false [] [] vs fun us => at0 us fun els => els.all (fun e => e.length == sz && scalars e && V.bD0 e) = true /\
   K (.arr (.l s 0) 0 els.length) (some ⟨[], [], true, (.l s 0, .row ty sz true els) :: hp⟩) := by
 simp only [ne, lm0, at0]; apply propext
 exact ⟨fun ⟨_, vs, e, h1, h⟩ => by injection e with e; subst e; exact ⟨vs, h1, h⟩, fun ⟨vs, h1, h⟩ => ⟨s, vs, rfl, h1, h⟩⟩
@[simp] theorem ne_mkrow_h {ty sz xs} : ne P hp env (some s) (.mkrow ty sz xs) K Kp = evsK env xs (hold fun vs => V.seeL false [] [] vs (hold fun us => at0 us (hold fun els => els.all (hold fun e => e.length == sz && scalars e && V.bD0 e) = true /\
   K (.arr (.l s 0) 0 els.length) (some ⟨[], [], true, (.l s 0, .row ty sz true els) :: hp⟩)))) := ne_mkrow
theorem ne_st {sz x y} : ne P hp env none (.st sz x y) K Kp = evK env x fun u => evK env y fun v => aw0 v fun us => us.length = sz /\ scalars us = true /\ stK hp us u fun h => K .any (some ⟨[], u.base, false, h⟩) := by
 simp only [ne, b20, aw0, stK_eq]; apply propext
 exact ⟨fun ⟨_, u, v, us, h1, h2, h3, h⟩ => ⟨u, h1, v, h2, us, h3, h⟩, fun ⟨u, h1, v, h2, us, h3, h⟩ => ⟨trivial, u, v, us, h1, h2, h3, h⟩⟩
@[simp] theorem ne_st_h {sz x y} : ne P hp env none (.st sz x y) K Kp = evK env x (hold fun u => evK env y (hold fun v => aw0 v (hold fun us => us.length = sz /\ scalars us = true /\ stK hp us u (hold fun h => K .any (some ⟨[], u.base, false, h⟩))))) := ne_st
theorem ne_app {ty sz bytes x y} : ne P hp env (some s) (.app ty sz bytes x y) K Kp = evK env x fun v => evK env y fun u => appD hp ty sz bytes s v u K := by
 simp only [ne, b20]; apply propext
 exact ⟨fun ⟨_, v, u, e, h1, h2, h⟩ => by injection e with e; subst e; exact ⟨v, h1, u, h2, h⟩, fun ⟨v, h1, u, h2, h⟩ => ⟨s, v, u, rfl, h1, h2, h⟩⟩
@[simp] theorem ne_app_h {ty sz bytes x y} : ne P hp env (some s) (.app ty sz bytes x y) K Kp = evK env x (hold fun v => evK env y (hold fun u => appD hp ty sz bytes s v u K)) := ne_app
theorem appD_arr {ty sz bytes i o m u} : appD hp ty sz bytes s (.arr i o m) u K = (o = 0 /\ objK hp i fun ob => rowK ob fun ty' sz' own xs => ty' = ty /\ sz' = sz /\ own = true /\ m <= xs.length /\ srcK hp sz u fun es => (m + es.length) * bytes <= 140737488355328 /\
   K (.arr (.l s 0) 0 (m + es.length)) (some ⟨[], i :: u.base, true, (.l s 0, .row ty sz true (xs.take m ++ es)) :: Hp.set i .gone hp⟩)) := by
 simp only [appD, rW0, dQ0]; apply propext
 constructor
 ·rintro ⟨h0, xs, h1, h2⟩; exact ⟨h0, ty, sz, true, xs, h1, rfl, rfl, rfl, h2⟩
 ·rintro ⟨h0, ty', sz', own, xs, h1, rfl, rfl, rfl, h2⟩; exact ⟨h0, xs, h1, h2⟩
@[simp] theorem appD_arr_h {ty sz bytes i o m u} : appD hp ty sz bytes s (.arr i o m) u K = (o = 0 /\ objK hp i (hold fun ob => rowK ob (hold fun ty' sz' own xs => ty' = ty /\ sz' = sz /\ own = true /\ m <= xs.length /\ srcK hp sz u (hold fun es => (m + es.length) * bytes <= 140737488355328 /\
   K (.arr (.l s 0) 0 (m + es.length)) (some ⟨[], i :: u.base, true, (.l s 0, .row ty sz true (xs.take m ++ es)) :: Hp.set i .gone hp⟩))))) := appD_arr
def bl0 (P : Program) (env : Env) (hp : Hp) (d : Option Nat) (f : Operand) (xs : List Operand) (K Kp : V -> Option Eff -> Prop) : Prop := ne P hp env d (.call f xs) K Kp
theorem ne_call {f xs} : ne P hp env d (.call f xs) K Kp = bl0 P env hp d f xs K Kp := _root_.id rfl
end anyorder
theorem vcI_none {d op} {K : Env -> Hp -> Prop} {Kp : V -> Hp -> Prop} : vcI P env hp ⟨d, none, op⟩ K Kp = vcOp P env hp d op K Kp := _root_.id rfl
def grdK (v : V) (want : Bool) (A B : Prop) : Prop := grdV v want A B
@[simp] theorem grdK_bool {b want : Bool} {A B : Prop} : grdK (.c (.bool b)) want A B = iteK (b == want) A B := by rw [iteK_want]; rfl
@[simp] theorem grdK_und {x want} {A B : Prop} {t : Tg B} : grdK (.c (.tuple x)) want A (hold B t) = B := _root_.id rfl
theorem vcI_some {d op s want} {K : Env -> Hp -> Prop} {Kp : V -> Hp -> Prop} : vcI P env hp ⟨d, some (s, want), op⟩ K Kp = aS0 env s fun v => grdK v want (vcOp P env hp d op K Kp) (K (env.put d V.und) hp) := by
 simp only [vcI, ek0, grdK]
@[simp] theorem vcI_some_h {d op s want} {K : Env -> Hp -> Prop} {Kp : V -> Hp -> Prop} : vcI P env hp ⟨d, some (s, want), op⟩ K Kp = aS0 env s (hold fun v => grdK v want (hold (vcOp P env hp d op K Kp)) (hold (K (env.put d V.und) hp))) := vcI_some
theorem vcIs_nil {K : Env -> Hp -> Prop} {Kp : V -> Hp -> Prop} : vcIs P env hp [] K Kp = K env hp := _root_.id rfl
@[simp] theorem vcIs_cons_h {i is} {K : Env -> Hp -> Prop} {Kp : V -> Hp -> Prop} : vcIs P env hp (i :: is) K Kp = vcI P env hp i (hold fun env' hp' => vcIs P env' hp' is K Kp) Kp := _root_.id rfl
theorem neG_none {d op} {K Kp : V -> Option Eff -> Prop} : neG P hp env ⟨d, none, op⟩ K Kp = ne P hp env d op K Kp := _root_.id rfl
theorem neG_some {d op s want} {K Kp : V -> Option Eff -> Prop} : neG P hp env ⟨d, some (s, want), op⟩ K Kp = aS0 env s fun v => grdK v want (ne P hp env d op K Kp) (K V.und none) := by
 simp only [neG, ek0, grdK]
@[simp] theorem neG_some_h {d op s want} {K Kp : V -> Option Eff -> Prop} : neG P hp env ⟨d, some (s, want), op⟩ K Kp = aS0 env s (hold fun v => grdK v want (hold (ne P hp env d op K Kp)) (hold (K V.und none))) := neG_some
section
variable {ss : List Nat} {K : Env -> Hp -> Prop} {Kp : V -> Hp -> Prop} {j : Nat} {log : List Lg} {deps : List Nat} {is : List (I × List Nat)} {d : Option Nat}
def bp0 (P : Program) (ss : List Nat) (K : Env -> Hp -> Prop) (Kp : V -> Hp -> Prop) (j : Nat) (deps : List Nat) (is : List (I × List Nat)) (d : Option Nat) (env : Env) (hp : Hp) (log : List Lg) (v : V) (e : Option Eff) : Prop :=
 okE deps log e (Eff.nd d e) = true /\ vcD P ss K Kp (j + 1) is (env.put d v) (Eff.after hp e) (logE j e (Eff.nd d e) log)
def aK0 (P : Program) (j0 j : Nat) (deps : List Nat) (is : List (I × List Nat)) (d : Option Nat) (env : Env) (hp : Hp) (log : List Lg) (v : V) (e : Option Eff) : Prop :=
 okE deps log e (Eff.nd d e) = true /\ Eff.wrs e = [] /\ vcDp P j0 (j + 1) is (env.put d v) (Eff.after hp e) (logE j e (Eff.nd d e) log)
def panD (P : Program) (ss : List Nat) (Kp : V -> Hp -> Prop) (j : Nat) (deps : List Nat) (is : List (I × List Nat)) (d : Option Nat) (env : Env) (hp : Hp) (log : List Lg) (v : V) (e : Option Eff) : Prop :=
 okE deps log (some ⟨[], Eff.wrs e, false, hp⟩) d = true /\ (log.all fun l => l.wr.isEmpty || deps.contains l.k) = true /\ Kp v (Hp.outS ss (Eff.after hp e)) /\
  vcDp P j (j + 1) is env (Eff.after hp e) (logE j (some ⟨[], Eff.wrs e, false, hp⟩) d log)
theorem vcD_nil : vcD P ss K Kp j [] env hp log = K env hp := _root_.id rfl
@[simp] theorem vcD_cons_h {i} : vcD P ss K Kp j ((i, deps) :: is) env hp log = neG P hp env i (hold (bp0 P ss K Kp j deps is i.d env hp log)) (hold (panD P ss Kp j deps is i.d env hp log)) := _root_.id rfl
theorem vcDp_nil {j0} : vcDp P j0 j [] env hp log = True := _root_.id rfl
@[simp] theorem vcDp_cons_h {j0 i} : vcDp P j0 j ((i, deps) :: is) env hp log = if deps.contains j0 then vcDp P j0 (j + 1) is env hp log else neG P hp env i (hold (aK0 P j0 j deps is i.d env hp log)) (hold fun _ _ => False) := _root_.id rfl
@[simp] theorem stepD_none {v} : bp0 P ss K Kp j deps is d env hp log v none = vcD P ss K Kp (j + 1) is (env.put d v) hp log := by simp [bp0, okE, Eff.nd, Eff.after, logE]
@[simp] theorem stepD_some {v rd wr nw h} : bp0 P ss K Kp j deps is d env hp log v (some ⟨rd, wr, nw, h⟩) = (okE deps log (some ⟨rd, wr, nw, h⟩) (if nw then d else none) = true /\ vcD P ss K Kp (j + 1) is (env.put d v) h (⟨j, rd ++ wr, wr, if nw then d else none⟩ :: log)) := _root_.id rfl
@[simp] theorem stepDp_some {j0 v rd wr nw h} : aK0 P j0 j deps is d env hp log v (some ⟨rd, wr, nw, h⟩) = (okE deps log (some ⟨rd, wr, nw, h⟩) (if nw then d else none) = true /\ wr = [] /\ vcDp P j0 (j + 1) is (env.put d v) h (⟨j, rd ++ wr, wr, if nw then d else none⟩ :: log)) := _root_.id rfl
@[simp] theorem panD_some {v rd wr nw h} : panD P ss Kp j deps is d env hp log v (some ⟨rd, wr, nw, h⟩) = (okE deps log (some ⟨[], wr, false, hp⟩) d = true /\ (log.all fun l => l.wr.isEmpty || deps.contains l.k) = true /\ Kp v (Hp.outS ss h) /\ vcDp P j (j + 1) is env h (⟨j, wr, wr, d⟩ :: log)) := _root_.id rfl
@[simp] theorem vcDR_eq_h {r} : vcDR P env hp r K Kp = vcD P (newS r.any) (hold fun env' hp' => vcIs P env' hp' r.rest K Kp) Kp 0 r.any (Env.gv0 (newS r.any) env) (Hp.gv0 (newS r.any) hp) [] := _root_.id rfl
@[simp] theorem okE_nil {f nd} : (okE deps [] (some f) nd = true) = True := by simp [okE]
@[simp] theorem okE_cons {l rd wr nw h nd} : (okE deps (l :: log) (some ⟨rd, wr, nw, h⟩) nd = true) = (ok1 deps l (rd ++ wr) wr nd = true /\ okE deps log (some ⟨rd, wr, nw, h⟩) nd = true) := by simp [okE]
@[simp] theorem ok1_eq {k tch' wr' nd' tch wr nd} : (ok1 deps ⟨k, tch', wr', nd'⟩ tch wr nd = true) = ((tch'.any fun i => i.at nd) = false /\ (deps.contains k = true \/ ((tch'.any fun i => wr.contains i) = false /\ (tch.any fun i => wr'.contains i || i.at nd') = false))) := by
 simp only [ok1, Bool.and_eq_true, Bool.or_eq_true, Bool.not_eq_true', Bool.or_eq_false_iff]
end
section
variable {Q : Qs}
theorem vc_skip : vc P .skip env hp Q = Q .normal env hp := _root_.id rfl
@[simp] theorem vc_reg_h {is} : vc P (.reg is) env hp Q = vcIs P env hp is (hold fun e h => Q .normal e h) (hold fun v h => Q (.pan v) (stab (is.map I.d) env) h) := _root_.id rfl
@[simp] theorem vc_dreg_h {r} : vc P (.dreg r) env hp Q = vcDR P env hp r (hold fun e h => Q .normal e h) (hold fun v h => Q (.pan v) (stab ((r.any.map (·.1) ++ r.rest).map I.d) env) h) := _root_.id rfl
@[simp] theorem vc_areg_h {t rest ds} : vc P (.areg t rest ds) env hp Q = vcT P (hold fun e h => vcIs P e h rest (fun e h => Q .normal e h) fun v h => Q (.pan v) (stab ds env) h) (hold fun v h => Q (.pan v) (stab ds env) h) t env hp := _root_.id rfl
@[simp] theorem vcT_done {K : Env -> Hp -> Prop} {Kp : V -> Hp -> Prop} : vcT P K Kp .done env hp = K env hp := _root_.id rfl
@[simp] theorem vcT_nil {K : Env -> Hp -> Prop} {Kp : V -> Hp -> Prop} : vcT P K Kp .nil env hp = True := _root_.id rfl
@[simp] theorem vcT_alt_h {K : Env -> Hp -> Prop} {Kp : V -> Hp -> Prop} {i sub more} : vcT P K Kp (.alt i sub more) env hp = (vcI P env hp i (hold fun e h => vcT P K Kp sub e h) Kp /\ vcT P K Kp more env hp) := _root_.id rfl
@[simp] theorem vcT_take_h {K : Env -> Hp -> Prop} {Kp : V -> Hp -> Prop} {i sub} : vcT P K Kp (.take i sub) env hp = vcI P env hp i (hold fun e h => vcT P K Kp sub e h) Kp := _root_.id rfl
@[simp] theorem vc_seq_h {a b} : vc P (.seq a b) env hp Q = vc P a env hp (hold (mm0 (fun e h => vc P b e h Q) Q)) := _root_.id rfl
theorem vc_cond {c t e} : vc P (.cond c t e) env hp Q = evK env c fun v => bg0 v fun b => (b = true -> vc P t env hp Q) /\ (b = false -> vc P e env hp Q) := by
 simp only [vc, b20, r70]
@[simp] theorem vc_cond_h {c t e} : vc P (.cond c t e) env hp Q = evK env c (hold fun v => bg0 v (hold fun b => iteK b (hold (vc P t env hp Q)) (hold (vc P e env hp Q)))) := vc_cond
theorem vc_blk_h {id b} : vc P (.blk id b) env hp Q = vc P b env hp (hold (blkQ id Q)) := _root_.id rfl
theorem vc_exit {id} : vc P (.exit id) env hp Q = Q (.exit id) env hp := _root_.id rfl
theorem vc_ret {P : Program} : vc P .ret env hp Q = Q .ret env hp := _root_.id rfl
def bt0 (P : Program) (b : Cd) (env : Env) (hp : Hp) (Q : Qs) : Prop := ∃ I : Nat -> Env -> Hp -> Prop, (∃ m E h, I m E h /\ Wk E h env hp) /\
   ∀ m E h, I m E h -> vc P b E h (mm0 (fun e' h' => ∃ m' E' h'', m' < m /\ I m' E' h'' /\ Wk E' h'' e' h') Q)
theorem vc_loop {b} : vc P (.loop b) env hp Q = bt0 P b env hp Q := _root_.id rfl
theorem re0 {K : Env -> Hp -> Prop} : mm0 K Q .normal env hp = K env hp := _root_.id rfl
theorem td0 {K : Env -> Hp -> Prop} {i} : mm0 K Q (.exit i) env hp = Q (.exit i) env hp := _root_.id rfl
theorem thenQ_ret {K : Env -> Hp -> Prop} : mm0 K Q .ret env hp = Q .ret env hp := _root_.id rfl
theorem thenQ_pan {K : Env -> Hp -> Prop} {v} : mm0 K Q (.pan v) env hp = Q (.pan v) env hp := _root_.id rfl
theorem rn0 {id} : blkQ id Q .normal env hp = Q .normal env hp := _root_.id rfl
theorem blkQ_exit {id i} : blkQ id Q (.exit i) env hp = if i = id then Q .normal env hp else Q (.exit i) env hp := _root_.id rfl
theorem blkQ_ret {id} : blkQ id Q .ret env hp = Q .ret env hp := _root_.id rfl
theorem blkQ_pan {id v} : blkQ id Q (.pan v) env hp = Q (.pan v) env hp := _root_.id rfl
end
section
variable {rs : List IOp} {Q : Res -> Prop}
theorem pvK_mv {x K} : pvK env hp (.mv x) K = evK env x K := _root_.id rfl
@[simp] theorem pvK_ld_h {x K} : pvK env hp (.ld x) K = evK env x (hold fun v => ldK hp v K) := _root_.id rfl
@[simp] theorem pvK_lda_h {sz x K} : pvK env hp (.lda sz x) K = evK env x (hold fun v => ldaK hp sz v K) := _root_.id rfl
theorem resV_nil {ρ K} : resV hp ρ [] K = K [] := _root_.id rfl
@[simp] theorem resV_cons_h {r rs K} : resV hp (Env.ev env) (r :: rs) K = pvK env hp r (hold fun v => resV hp (Env.ev env) rs (hold fun vs => K (v :: vs))) := by0 (hp := hp) r _
@[simp] theorem retP_normal_h : retP rs Q .normal env hp = resV hp (Env.ev env) rs (hold fun vs => V.view (Hp.frz (lG0 vs) hp) (lG0 vs) (hold fun u => u.pure = true /\ Q (.ret u []))) := _root_.id rfl
@[simp] theorem retP_ret_h : retP rs Q .ret env hp = resV hp (Env.ev env) rs (hold fun vs => V.view (Hp.frz (lG0 vs) hp) (lG0 vs) (hold fun u => u.pure = true /\ Q (.ret u []))) := _root_.id rfl
@[simp] theorem retP_pan_h {v} : retP rs Q (.pan v) env hp = V.view (Hp.frz v hp) v (hold fun u => u.pure = true /\ Q (.pan u [])) := _root_.id rfl
end
end Go.Am
end

section
namespace Go.Am
variable {P : Program} {n : Nat} {env : Env} {hp : Hp}
attribute [simp] te0 vcOp_call ne_alloc ne_call vcI_none vcIs_nil neG_none vcD_nil vcDp_nil vc_skip vc_blk_h vc_exit vc_ret vc_loop re0 td0 thenQ_ret thenQ_pan rn0 blkQ_exit blkQ_ret blkQ_pan pvK_mv resV_nil
section
variable {K : V -> Prop} {Ks : List V -> Prop} {Ki : IntKind -> Int -> Prop}
@[simp] theorem lookK_cons {s t : Nat} {v : V} {e : Env} : aS0 ((s, v) :: e) t K = if t = s then K v else aS0 e t K := _root_.id rfl
@[simp] theorem lookK_nil {t : Nat} : aS0 [] t K = False := _root_.id rfl
@[simp] theorem evK_tmp {t} : evK env (.tmp t) K = aS0 env t K := _root_.id rfl
@[simp] theorem evK_const {c} : evK env (.const c) K = K (ofConst c) := _root_.id rfl
@[simp] theorem evK_func {f} : evK env (.func f) K = K (.fn f []) := _root_.id rfl
@[simp] theorem evsK_nil : evsK env [] Ks = Ks [] := _root_.id rfl
@[simp] theorem evsK_cons_h {x xs} : evsK env (x :: xs) Ks = evK env x (hold fun v => evsK env xs (hold fun vs => Ks (v :: vs))) := _root_.id rfl
@[simp] theorem nthK_zero {v vs} : nthK (v :: vs) 0 K = K v := _root_.id rfl
@[simp] theorem nthK_succ {v vs m} : nthK (v :: vs) (m + 1) K = nthK vs m K := _root_.id rfl
@[simp] theorem objK_cons {i j : Id} {o : Ob} {Ko : Ob -> Prop} : objK ((i, o) :: hp) j Ko = if j = i then Ko o else objK hp j Ko := _root_.id rfl
@[simp] theorem objK_nil {j : Id} {Ko : Ob -> Prop} : objK [] j Ko = False := _root_.id rfl
@[simp] theorem boxK_box {cs} : boxK (.box cs) Ks = Ks cs := _root_.id rfl
@[simp] theorem rowK_row {ty sz own xs Kr} : rowK (.row ty sz own xs) Kr = Kr ty sz own xs := _root_.id rfl
@[simp] theorem boolK_bool {b} {Kb : Bool -> Prop} : bg0 (.c (.bool b)) Kb = Kb b := _root_.id rfl
@[simp] theorem intK_int {k m} : intK (.c (.int k m)) Ki = Ki k m := _root_.id rfl
@[simp] theorem strK_string {s} {Kb : ByteArray -> Prop} : strK (.c (.string s)) Kb = Kb s := _root_.id rfl
@[simp] theorem aggK_agg {cs} : aggK (.agg cs) Ks = Ks cs := _root_.id rfl
@[simp] theorem fnK_fn {f cs} {Kf : Nat -> List V -> Prop} : fnK (.fn f cs) Kf = Kf f cs := _root_.id rfl
@[simp] theorem ifcK_ifc {t v} {Kf : Nat -> V -> Prop} : ifcK (.ifc t v) Kf = Kf t v := _root_.id rfl
@[simp] theorem cellsK_agg {cs} : aw0 (.agg cs) Ks = Ks cs := by simp [aw0, V.cells]
@[simp] theorem cellsK_int {k m} : aw0 (.c (.int k m)) Ks = Ks [.c (.int k m)] := by simp [aw0, V.cells]
@[simp] theorem cellsK_bool {b} : aw0 (.c (.bool b)) Ks = Ks [.c (.bool b)] := by simp [aw0, V.cells]
@[simp] theorem cellsK_string {b} : aw0 (.c (.string b)) Ks = Ks [.c (.string b)] := by simp [aw0, V.cells]
@[simp] theorem cellsK_nil : aw0 .nil Ks = Ks [.nil] := by simp [aw0, V.cells]
@[simp] theorem cellsK_lst {xs} : aw0 (.lst xs) Ks = Ks [.lst xs] := by simp [aw0, V.cells]
@[simp] theorem cellsK_bp {i o} : aw0 (.bp i o) Ks = Ks [.bp i o] := by simp [aw0, V.cells]
@[simp] theorem cellsK_arr {i o m} : aw0 (.arr i o m) Ks = Ks [.arr i o m] := by simp [aw0, V.cells]
@[simp] theorem cellsLK_nil {Kl : List (List V) -> Prop} : at0 [] Kl = Kl [] := by simp [at0]
theorem qn0 {v vs} {Kl : List (List V) -> Prop} : at0 (v :: vs) Kl = aw0 v fun us => at0 vs fun uss => Kl (us :: uss) := by
 simp only [at0, aw0, List.mapM_cons]; apply propext
 constructor
 ·rintro ⟨els, h1, h2⟩
  simp only [Option.bind_eq_bind, Option.bind_eq_some_iff, Option.pure_def, Option.some.injEq] at h1
  obtain ⟨v, h1, us, h3, rfl⟩ := h1
  exact ⟨v, h1, us, h3, h2⟩
 ·rintro ⟨us, h1, uss, h2, h3⟩; exact ⟨us :: uss, by simp [h1, h2], h3⟩
@[simp] theorem cellsLK_cons_h {v vs} {Kl : List (List V) -> Prop} : at0 (v :: vs) Kl = aw0 v (hold fun us => at0 vs (hold fun uss => Kl (us :: uss))) := qn0
@[simp] theorem ldK_rp {cs} : ldK hp (.rp cs) K = nthK cs 0 K := _root_.id rfl
@[simp] theorem ldK_bp_h {i off} : ldK hp (.bp i off) K = objK hp i (hold fun o => boxK o (hold fun cs => nthK cs off K)) := _root_.id rfl
@[simp] theorem ldK_ep_h {i k off} : ldK hp (.ep i k off) K = objK hp i (hold fun o => rowK o (hold fun _ _ _ xs => gr0 xs k (hold fun e => nthK e off K))) := _root_.id rfl
@[simp] theorem ldaK_rp {sz cs} : ldaK hp sz (.rp cs) K = (sz <= cs.length /\ K (.agg (cs.take sz))) := _root_.id rfl
@[simp] theorem ldaK_bp_h {sz i off} : ldaK hp sz (.bp i off) K = objK hp i (hold fun o => boxK o (hold fun cs => off + sz <= cs.length /\ K (.agg ((cs.drop off).take sz)))) := _root_.id rfl
@[simp] theorem ldaK_ep_h {sz i k off} : ldaK hp sz (.ep i k off) K = objK hp i (hold fun o => rowK o (hold fun _ _ _ xs => gr0 xs k (hold fun e => off + sz <= e.length /\ K (.agg ((e.drop off).take sz))))) := _root_.id rfl
@[simp] theorem iaK_lst_h {sz xs i} : iaK hp sz (.lst xs) i K = (0 <= i /\ gr0 xs i.toNat (hold fun e => e.length = sz /\ K (.rp e))) := _root_.id rfl
@[simp] theorem iaK_arr_h {sz id o m i} : iaK hp sz (.arr id o m) i K = (0 <= i /\ i < m /\ objK hp id (hold fun ob => rowK ob (hold fun _ sz' _ _ => sz' = sz /\ K (.ep id (o + i.toNat) 0)))) := _root_.id rfl
@[simp] theorem stK_bp_h {us i off} {Kh : Hp -> Prop} : stK hp us (.bp i off) Kh = objK hp i (hold fun o => boxK o (hold fun cs => off + us.length <= cs.length /\ Kh (Hp.set i (.box (setAt cs off us)) hp))) := _root_.id rfl
@[simp] theorem stK_ep_h {us i k off} {Kh : Hp -> Prop} : stK hp us (.ep i k off) Kh = objK hp i (hold fun o => rowK o (hold fun ty sz own xs => own = true /\ gr0 xs k (hold fun e => off + us.length <= e.length /\ V.bD0 us = true /\ Kh (Hp.set i (.row ty sz true (xs.set k (setAt e off us))) hp)))) := _root_.id rfl
@[simp] theorem srcK_lst {sz ys} {Kl : List (List V) -> Prop} : srcK hp sz (.lst ys) Kl = ((ys = [] \/ ∃ e, ys[0]? = some e /\ e.length = sz) /\ Kl ys) := _root_.id rfl
@[simp] theorem srcK_arr_h {sz j o m} {Kl : List (List V) -> Prop} : srcK hp sz (.arr j o m) Kl = objK hp j (hold fun ob => rowK ob (hold fun _ sz' _ xs => sz' = sz /\ o + m <= xs.length /\ Kl ((xs.drop o).take m))) := _root_.id rfl
section
variable {ty sz bytes d : Nat} {u : V} {Kf : Env -> Hp -> Prop}
theorem appK_nil : appK env hp ty sz bytes d .nil u Kf = srcK hp sz u fun es => es.length * bytes <= 140737488355328 /\
   Kf ((Env.kill (.l d 0) env).put (some d) (.arr (.l d 0) 0 es.length)) ((.l d 0, .row ty sz true es) :: Hp.kill (.l d 0) hp) := _root_.id rfl
@[simp] theorem appK_nil_h : appK env hp ty sz bytes d .nil u Kf = srcK hp sz u (hold fun es => es.length * bytes <= 140737488355328 /\
   Kf ((Env.kill (.l d 0) env).put (some d) (.arr (.l d 0) 0 es.length)) ((.l d 0, .row ty sz true es) :: Hp.kill (.l d 0) hp)) := appK_nil
theorem appK_arr {i o m} : appK env hp ty sz bytes d (.arr i o m) u Kf = (o = 0 /\ objK hp i fun ob => rowK ob fun ty' sz' own xs => ty' = ty /\ sz' = sz /\ own = true /\ m <= xs.length /\ srcK hp sz u fun es => (m + es.length) * bytes <= 140737488355328 /\
   Kf ((Env.kill (.l d 0) env).put (some d) (.arr (.l d 0) 0 (m + es.length))) ((.l d 0, .row ty sz true (xs.take m ++ es)) :: Hp.kill (.l d 0) (Hp.set i .gone hp))) := _root_.id rfl
@[simp] theorem appK_arr_h {i o m} : appK env hp ty sz bytes d (.arr i o m) u Kf = (o = 0 /\ objK hp i (hold fun ob => rowK ob (hold fun ty' sz' own xs => ty' = ty /\ sz' = sz /\ own = true /\ m <= xs.length /\ srcK hp sz u (hold fun es => (m + es.length) * bytes <= 140737488355328 /\
   Kf ((Env.kill (.l d 0) env).put (some d) (.arr (.l d 0) 0 (m + es.length))) ((.l d 0, .row ty sz true (xs.take m ++ es)) :: Hp.kill (.l d 0) (Hp.set i .gone hp)))))) := appK_arr
end
section
variable {ty sz bytes d : Nat} {u : V} {Kf : Env -> Hp -> Prop}
theorem appK_arc {i o m c} : appK env hp ty sz bytes d (.arc i o m c) u Kf = srcK hp sz u.hV0 fun es => o = 0 /\ m <= c /\ objK hp i fun ob => rowK ob fun ty' sz' own xs => ty' = ty /\ sz' = sz /\ own = true /\ c <= xs.length /\
   iteK (decide (m + es.length <= c)) (0 < c /\ Kf (env.put (some d) (.arc i 0 (m + es.length) c)) (Hp.set i (.row ty sz true (xs.take m ++ es ++ xs.drop (m + es.length))) hp))
    ((m + es.length) * bytes <= 140737488355328 /\ Kf ((Env.kill (.l d 0) env).put (some d) (.arr (.l d 0) 0 (m + es.length))) ((.l d 0, .row ty sz true (xs.take m ++ es)) :: Hp.kill (.l d 0) hp)) := by
 simp only [appK, iteK, decide_eq_true_eq, decide_eq_false_iff_not]
@[simp] theorem appK_arc_h {i o m c} : appK env hp ty sz bytes d (.arc i o m c) u Kf = srcK hp sz u.hV0 (hold fun es => o = 0 /\ m <= c /\ objK hp i (hold fun ob => rowK ob (hold fun ty' sz' own xs => ty' = ty /\ sz' = sz /\ own = true /\ c <= xs.length /\
   iteK (decide (m + es.length <= c)) (hold (0 < c /\ Kf (env.put (some d) (.arc i 0 (m + es.length) c)) (Hp.set i (.row ty sz true (xs.take m ++ es ++ xs.drop (m + es.length))) hp)))
    (hold ((m + es.length) * bytes <= 140737488355328 /\ Kf ((Env.kill (.l d 0) env).put (some d) (.arr (.l d 0) 0 (m + es.length))) ((.l d 0, .row ty sz true (xs.take m ++ es)) :: Hp.kill (.l d 0) hp)))))) := appK_arc
theorem appz_arc {z i o m c k v} : fD0 env hp ty sz bytes z d (.arc i o m c) (.c (.int k v)) Kf = (0 <= v /\ v <= 140737488355328 /\ ¬ m + v.toNat <= c /\ o = 0 /\ m <= c /\ objK hp i fun ob => rowK ob fun ty' sz' own xs => ty' = ty /\ sz' = sz /\ own = true /\ c <= xs.length /\
   (m + v.toNat) * bytes <= 140737488355328 /\ Kf ((Env.kill (.l d 0) env).put (some d) (.arr (.l d 0) 0 (m + v.toNat))) ((.l d 0, .row ty sz true (xs.take m ++ List.replicate v.toNat z)) :: Hp.kill (.l d 0) hp)) := by
 simp only [fD0, r50, dQ0, List.length_replicate]
 apply propext
 constructor
 ·rintro ⟨h1, h2, ⟨h3, h4, ty', sz', own, xs, h5, h6, h7, h8, h9, h10, h11⟩, h12⟩
  exact ⟨h1, h2, h12, h3, h4, ty', sz', own, xs, h5, h6, h7, h8, h9, h11 h12⟩
 ·rintro ⟨h1, h2, h12, h3, h4, ty', sz', own, xs, h5, h6, h7, h8, h9, h11⟩
  exact ⟨h1, h2, ⟨h3, h4, ty', sz', own, xs, h5, h6, h7, h8, h9, fun h => absurd h h12, fun _ => h11⟩, h12⟩
@[simp] theorem appz_arc_h {z i o m c k v} : fD0 env hp ty sz bytes z d (.arc i o m c) (.c (.int k v)) Kf = (0 <= v /\ v <= 140737488355328 /\ ¬ m + v.toNat <= c /\ o = 0 /\ m <= c /\ objK hp i (hold fun ob => rowK ob (hold fun ty' sz' own xs => ty' = ty /\ sz' = sz /\ own = true /\ c <= xs.length /\
   (m + v.toNat) * bytes <= 140737488355328 /\ Kf ((Env.kill (.l d 0) env).put (some d) (.arr (.l d 0) 0 (m + v.toNat))) ((.l d 0, .row ty sz true (xs.take m ++ List.replicate v.toNat z)) :: Hp.kill (.l d 0) hp)))) := appz_arc
end
@[simp] theorem unarc_arc {i o m c} : V.hV0 (.arc i o m c) = .arr i o m := _root_.id rfl
@[simp] theorem unarc_arr {i o m} : V.hV0 (.arr i o m) = .arr i o m := _root_.id rfl
section
variable {Kc : Int -> Hp -> Prop} {Kh : Hp -> Prop}
theorem cpy_arr0 {sz i o m u} : cpyV hp sz (.arr i o m) u Kc = objK hp i fun ob => rowK ob fun ty sz' own xs => sz' = sz /\ own = true /\ srcK hp sz u.hV0 fun es => o + min es.length m <= xs.length /\ Kc (min es.length m : Nat) (Hp.set i (.row ty sz true (xs.take o ++ es.take (min es.length m) ++ xs.drop (o + min es.length m))) hp) := by
 rw [dQ0]
 simp only [cpyV, V.hV0, rW0]
 apply propext
 constructor
 ·rintro ⟨ty, xs, h1, h2⟩; exact ⟨ty, sz, true, xs, h1, rfl, rfl, h2⟩
 ·rintro ⟨ty, sz', own, xs, h1, rfl, rfl, h2⟩; exact ⟨ty, xs, h1, h2⟩
@[simp] theorem cpy_arr {sz i o m u} : cpyV hp sz (.arr i o m) u Kc = objK hp i (hold fun ob => rowK ob (hold fun ty sz' own xs => sz' = sz /\ own = true /\ srcK hp sz u.hV0 (hold fun es => o + min es.length m <= xs.length /\ Kc (min es.length m : Nat) (Hp.set i (.row ty sz true (xs.take o ++ es.take (min es.length m) ++ xs.drop (o + min es.length m))) hp)))) := cpy_arr0
@[simp] theorem cpy_arc {sz i o m c u} : cpyV hp sz (.arc i o m c) u Kc = cpyV hp sz (.arr i o m) u Kc := _root_.id rfl
theorem mput_mp0 {kd i kv x} : qZ0 hp kd (.mp i) (.c kv) x Kh = (isKey kd kv = true /\ x.pure = true /\ objK hp i fun ob => mpoK ob fun kd' kvs => kd' = kd /\ Kh (Hp.set i (.mpo kd (mset kv x kvs)) hp)) := by
 rw [mpoK_eq]
 simp only [qZ0]
 apply propext
 constructor
 ·rintro ⟨h1, h2, kvs, h3, h4⟩; exact ⟨h1, h2, kd, kvs, h3, rfl, h4⟩
 ·rintro ⟨h1, h2, kd', kvs, h3, rfl, h4⟩; exact ⟨h1, h2, kvs, h3, h4⟩
@[simp] theorem mput_mp {kd i kv x} : qZ0 hp kd (.mp i) (.c kv) x Kh = (isKey kd kv = true /\ x.pure = true /\ objK hp i (hold fun ob => mpoK ob (hold fun kd' kvs => kd' = kd /\ Kh (Hp.set i (.mpo kd (mset kv x kvs)) hp)))) := mput_mp0
theorem mget_mp0 {kd z ok i kv} : qX0 hp kd z ok (.mp i) (.c kv) K = (isKey kd kv = true /\ objK hp i fun ob => mpoK ob fun kd' kvs => kd' = kd /\ jJ0 kv kvs (mres z ok K)) := by
 rw [mpoK_eq]
 simp only [qX0]
 apply propext
 constructor
 ·rintro ⟨h1, kvs, h3, h4⟩; exact ⟨h1, kd, kvs, h3, rfl, h4⟩
 ·rintro ⟨h1, kd', kvs, h3, rfl, h4⟩; exact ⟨h1, kvs, h3, h4⟩
@[simp] theorem mget_mp {kd z ok i kv} : qX0 hp kd z ok (.mp i) (.c kv) K = (isKey kd kv = true /\ objK hp i (hold fun ob => mpoK ob (hold fun kd' kvs => kd' = kd /\ jJ0 kv kvs (hold (mres z ok K))))) := mget_mp0
theorem clr_arr0 {sz z i o m} : clrV hp sz z (.arr i o m) Kh = (0 < m /\ objK hp i fun ob => rowK ob fun ty sz' own xs => sz' = sz /\ own = true /\ o + m <= xs.length /\ Kh (Hp.set i (.row ty sz true (xs.take o ++ List.replicate m z ++ xs.drop (o + m))) hp)) := by
 rw [dQ0]
 simp only [clrV, V.hV0]
 apply propext
 constructor
 ·rintro ⟨h0, ty, xs, h1, h2⟩; exact ⟨h0, ty, sz, true, xs, h1, rfl, rfl, h2⟩
 ·rintro ⟨h0, ty, sz', own, xs, h1, rfl, rfl, h2⟩; exact ⟨h0, ty, xs, h1, h2⟩
@[simp] theorem clr_arr {sz z i o m} : clrV hp sz z (.arr i o m) Kh = (0 < m /\ objK hp i (hold fun ob => rowK ob (hold fun ty sz' own xs => sz' = sz /\ own = true /\ o + m <= xs.length /\ Kh (Hp.set i (.row ty sz true (xs.take o ++ List.replicate m z ++ xs.drop (o + m))) hp)))) := clr_arr0
@[simp] theorem clr_arc {sz z i o m c} : clrV hp sz z (.arc i o m c) Kh = clrV hp sz z (.arr i o m) Kh := _root_.id rfl
end
@[simp] theorem mpoK_mpo {kd kvs} {Km : Option IntKind -> List (Value × V) -> Prop} : mpoK (.mpo kd kvs) Km = Km kd kvs := _root_.id rfl
@[simp] theorem mfindK_nil {k} {Ko : Option V -> Prop} : jJ0 k [] Ko = Ko none := _root_.id rfl
theorem qV0 {k k' v es} {Ko : Option V -> Prop} : jJ0 k ((k', v) :: es) Ko = iteK (hN0 k k') (Ko (some v)) (jJ0 k es Ko) := _root_.id rfl
@[simp] theorem mfindK_cons {k k' v es} {Ko : Option V -> Prop} : jJ0 k ((k', v) :: es) Ko = iteK (hN0 k k') (hold (Ko (some v))) (hold (jJ0 k es Ko)) := qV0
@[simp] theorem mset_nil {k v} : mset k v [] = [(k, v)] := _root_.id rfl
@[simp] theorem mset_cons {k v k' u es} : mset k v ((k', u) :: es) = if hN0 k k' then (k', v) :: es else (k', u) :: mset k v es := _root_.id rfl
@[simp] theorem mres_none {z ok} : mres z ok K none = K (if ok then .tup [ofConst z, .c (.bool false)] else ofConst z) := _root_.id rfl
@[simp] theorem mres_some {z ok v} : mres z ok K (some v) = K (if ok then .tup [v, .c (.bool true)] else v) := _root_.id rfl
@[simp] theorem sl3_arc {i o m c lo hi mx} : sl3V (.arc i o m c) lo hi mx K = intO mx 0 (hold fun q => intO hi 0 (hold fun h => intO lo 0 (hold fun l => 0 <= l /\ l <= h /\ h <= q /\ q <= c /\ K .any))) := _root_.id rfl
@[simp] theorem capV_arc {i o m c} {Kb : Int -> Prop} : capV (.arc i o m c) Kb = Kb c := _root_.id rfl
@[simp] theorem lenV_arc {i o m c} : lenV (.arc i o m c) K = K (.c (.int .i64 (m : Int))) := _root_.id rfl
theorem slLV_arc {sz id o m q lo hi} : slLV hp sz (.arc id o m q) lo hi K = objK hp id fun ob => rowK ob fun _ sz' _ _ => sz' = sz /\ intO hi m fun h => intO lo 0 fun l => 0 <= l /\ l <= h /\ h <= q /\ K (.arc id (o + l.toNat) (h.toNat - l.toNat) (q - l.toNat)) := by
 rw [dQ0]; simp only [slLV]
 apply propext
 constructor
 ·rintro ⟨⟨ty, own, xs, h1⟩, h2⟩; exact ⟨ty, sz, own, xs, h1, rfl, h2⟩
 ·rintro ⟨ty, sz', own, xs, h1, rfl, h2⟩; exact ⟨⟨ty, own, xs, h1⟩, h2⟩
@[simp] theorem slLV_arc_h {sz id o m q lo hi} : slLV hp sz (.arc id o m q) lo hi K = objK hp id (hold fun ob => rowK ob (hold fun _ sz' _ _ => sz' = sz /\ intO hi m (hold fun h => intO lo 0 (hold fun l => 0 <= l /\ l <= h /\ h <= q /\ K (.arc id (o + l.toNat) (h.toNat - l.toNat) (q - l.toNat)))))) := slLV_arc
@[simp] theorem isnlV_lst {xs} {Kb : Bool -> Prop} : qN0 (.lst xs) Kb = (Kb false /\ (xs = [] \/ xs[0]? = some [] -> Kb true)) := _root_.id rfl
@[simp] theorem isnlV_arr {i o m} {Kb : Bool -> Prop} : qN0 (.arr i o m) Kb = (Kb false /\ (m = 0 -> Kb true)) := _root_.id rfl
@[simp] theorem nchkV_bp {i o} : n60 (.bp i o) K = K (.bp i o) := _root_.id rfl
@[simp] theorem faV_bp {off i o} : faV off (.bp i o) K = K (.bp i (o + off)) := _root_.id rfl
@[simp] theorem faV_ep {off i k o} : faV off (.ep i k o) K = K (.ep i k (o + off)) := _root_.id rfl
@[simp] theorem faV_rp {off cs} : faV off (.rp cs) K = K (.rp (cs.drop off)) := _root_.id rfl
@[simp] theorem extV_tup {i cs} : extV i (.tup cs) K = nthK cs i K := by simp only [extV, lD0]
@[simp] theorem lenV_nil : lenV .nil K = K (.c (.int .i64 0)) := _root_.id rfl
@[simp] theorem lenV_lst {xs} : lenV (.lst xs) K = K (.c (.int .i64 (xs.length : Int))) := _root_.id rfl
@[simp] theorem lenV_arr {i o m} : lenV (.arr i o m) K = K (.c (.int .i64 (m : Int))) := _root_.id rfl
section
variable {k : IntKind} {a b : Int}
@[simp] theorem bin_add : binV .add (.c (.int k a)) (.c (.int k b)) K = K (.c (.int k (k.wrap (a + b)))) := by simp [binV, binI]
@[simp] theorem bin_sub : binV .sub (.c (.int k a)) (.c (.int k b)) K = K (.c (.int k (k.wrap (a - b)))) := by simp [binV, binI]
@[simp] theorem bin_mul : binV .mul (.c (.int k a)) (.c (.int k b)) K = K (.c (.int k (k.wrap (a * b)))) := by simp [binV, binI]
@[simp] theorem bin_quo : binV .quo (.c (.int k a)) (.c (.int k b)) K = (b ≠ 0 /\ K (.c (.int k (k.wrap (a.tdiv b))))) := by simp [binV, binI]
@[simp] theorem bin_rem : binV .rem (.c (.int k a)) (.c (.int k b)) K = (b ≠ 0 /\ K (.c (.int k (a.tmod b)))) := by simp [binV, binI]
@[simp] theorem bin_eql : binV .eql (.c (.int k a)) (.c (.int k b)) K = K (.c (.bool (a == b))) := by simp [binV, binI]
@[simp] theorem bin_neq : binV .neq (.c (.int k a)) (.c (.int k b)) K = K (.c (.bool (a != b))) := by simp [binV, binI]
@[simp] theorem bin_lss : binV .lss (.c (.int k a)) (.c (.int k b)) K = K (.c (.bool (a < b))) := by simp [binV, binI]
@[simp] theorem bin_leq : binV .leq (.c (.int k a)) (.c (.int k b)) K = K (.c (.bool (a <= b))) := by simp [binV, binI]
@[simp] theorem bin_gtr : binV .gtr (.c (.int k a)) (.c (.int k b)) K = K (.c (.bool (a > b))) := by simp [binV, binI]
@[simp] theorem bin_geq : binV .geq (.c (.int k a)) (.c (.int k b)) K = K (.c (.bool (a >= b))) := by simp [binV, binI]
end
section
variable {a b : ByteArray}
@[simp] theorem bins_add : binV .add (.c (.string a)) (.c (.string b)) K = (a.size + b.size <= 9223372036854775807 /\ K (.c (.string (a ++ b)))) := _root_.id rfl
@[simp] theorem bins_eql : binV .eql (.c (.string a)) (.c (.string b)) K = K (.c (.bool (eqS a b))) := _root_.id rfl
@[simp] theorem bins_neq : binV .neq (.c (.string a)) (.c (.string b)) K = K (.c (.bool (!eqS a b))) := _root_.id rfl
@[simp] theorem bins_lss : binV .lss (.c (.string a)) (.c (.string b)) K = K (.c (.bool (ltS a b))) := _root_.id rfl
end
@[simp] theorem binb_eq {a b : Bool} : nX0 false (.c (.bool a)) (.c (.bool b)) K = K (.c (.bool (a == b))) := _root_.id rfl
@[simp] theorem binb_ne {a b : Bool} : nX0 true (.c (.bool a)) (.c (.bool b)) K = K (.c (.bool (!(a == b)))) := _root_.id rfl
@[simp] theorem un_not {b : Bool} : unV .not (.c (.bool b)) K = K (.c (.bool !b)) := _root_.id rfl
@[simp] theorem un_neg {k : IntKind} {m : Int} : unV .neg (.c (.int k m)) K = K (.c (.int k (k.wrap (0 - m)))) := _root_.id rfl
@[simp] theorem intO_none {d : Int} {K : Int -> Prop} : intO none d K = K d := _root_.id rfl
@[simp] theorem slSV_string_h {s : ByteArray} {lo hi} : slSV (.c (.string s)) lo hi K = intO hi s.size (hold fun h => intO lo 0 (hold fun l => 0 <= l /\ l <= h /\ h <= s.size /\ K (.c (.string (s.extract l.toNat h.toNat))))) := _root_.id rfl
theorem slLV_arr {sz id o m lo hi} : slLV hp sz (.arr id o m) lo hi K = objK hp id fun ob => rowK ob fun _ sz' _ _ => sz' = sz /\ intO hi m fun h => intO lo 0 fun l => 0 <= l /\ l <= h /\ h <= m /\ K (.arr id (o + l.toNat) (h.toNat - l.toNat)) := by
 rw [dQ0]; simp only [slLV]
 apply propext
 constructor
 ·rintro ⟨⟨ty, own, xs, h1⟩, h2⟩; exact ⟨ty, sz, own, xs, h1, rfl, h2⟩
 ·rintro ⟨ty, sz', own, xs, h1, rfl, h2⟩; exact ⟨⟨ty, own, xs, h1⟩, h2⟩
@[simp] theorem slLV_arr_h {sz id o m lo hi} : slLV hp sz (.arr id o m) lo hi K = objK hp id (hold fun ob => rowK ob (hold fun _ sz' _ _ => sz' = sz /\ intO hi m (hold fun h => intO lo 0 (hold fun l => 0 <= l /\ l <= h /\ h <= m /\ K (.arr id (o + l.toNat) (h.toNat - l.toNat)))))) := slLV_arr
@[simp] theorem taV_same {t : Nat} {z : Value} {u : V} : taV t z (.ifc t u) K = K (.tup [u, .c (.bool true)]) := by simp [taV]
@[simp] theorem isniV_ifc {t : Nat} {u : V} {Kb : Bool -> Prop} : qM0 (.ifc t u) Kb = Kb false := _root_.id rfl
@[simp] theorem isniV_nil {Kb : Bool -> Prop} : qM0 (.c .nilIface) Kb = Kb true := _root_.id rfl
@[simp] theorem ixAV_c {m : Nat} {cs : List V} {k i} : ixAV m cs (.c (.int k i)) K = (0 <= i /\ i < (m : Int) /\ nthK cs i.toNat K) := by simp [ixAV, lD0]
@[simp] theorem ixSV_string {s : ByteArray} {k i} : ixSV (.c (.string s)) (.c (.int k i)) K = (0 <= i /\ ∃ b, s.data.toList[i.toNat]? = some b /\ K (.c (.int .u8 b.toNat))) := _root_.id rfl
@[simp] theorem fillV_nil {z} : hI0 (Env.ev env) [] z Ks = Ks z := _root_.id rfl
theorem sT0 {off sz x ps z} : hI0 (Env.ev env) ((off, sz, x) :: ps) z Ks = evK env x fun v => aw0 v fun us => us.length = sz /\ off + sz <= z.length /\ hI0 (Env.ev env) ps (setAt z off us) Ks := by
 simp only [hI0, b20, aw0]; apply propext
 exact ⟨fun ⟨v, us, h1, h2, h3⟩ => ⟨v, h1, us, h2, h3⟩, fun ⟨v, h1, us, h2, h3⟩ => ⟨v, us, h1, h2, h3⟩⟩
@[simp] theorem fillV_cons_h {off sz x ps z} : hI0 (Env.ev env) ((off, sz, x) :: ps) z Ks = evK env x (hold fun v => aw0 v (hold fun us => us.length = sz /\ off + sz <= z.length /\ hI0 (Env.ev env) ps (setAt z off us) Ks)) := sT0
@[simp] theorem ofConst_int {k m} : ofConst (.int k m) = .c (.int k m) := _root_.id rfl
@[simp] theorem ofConst_bool {b} : ofConst (.bool b) = .c (.bool b) := _root_.id rfl
@[simp] theorem ofConst_string {b} : ofConst (.string b) = .c (.string b) := _root_.id rfl
@[simp] theorem ofConst_nil : ofConst (.slice none 0 0) = .nil := _root_.id rfl
@[simp] theorem ofConst_agg {vs} : ofConst (.agg vs) = .agg (vs.toList.map kW0) := _root_.id rfl
@[simp] theorem ofCell_int {k m} : kW0 (.int k m) = .c (.int k m) := _root_.id rfl
@[simp] theorem ofCell_string {b} : kW0 (.string b) = .c (.string b) := _root_.id rfl
@[simp] theorem ofCell_nil : kW0 (.slice none 0 0) = .nil := _root_.id rfl
end
@[simp] theorem put_some' {e : Env} {s v} : Env.put e (some s) v = (s, v) :: e := _root_.id rfl
@[simp] theorem put_none' {e : Env} {v} : Env.put e none v = e := _root_.id rfl
@[simp] theorem killE_nil {i} : Env.kill i [] = [] := _root_.id rfl
@[simp] theorem killE_cons {i s v} {e : Env} : Env.kill i ((s, v) :: e) = (s, v.kill i) :: Env.kill i e := _root_.id rfl
@[simp] theorem killH_nil {i} : Hp.kill i [] = [] := _root_.id rfl
@[simp] theorem killH_cons {i j o} {h : Hp} : Hp.kill i ((j, o) :: h) = (j, if j = i then .gone else if o.has i then .gone else o) :: Hp.kill i h := _root_.id rfl
@[simp] theorem base_bp {i o} : V.base (.bp i o) = [i] := _root_.id rfl
@[simp] theorem base_arc {i o n q} : V.base (.arc i o n q) = [i] := _root_.id rfl
@[simp] theorem base_ep {i k o} : V.base (.ep i k o) = [i] := _root_.id rfl
@[simp] theorem base_arr {i o m} : V.base (.arr i o m) = [i] := _root_.id rfl
@[simp] theorem base_lst {xs} : V.base (.lst xs) = [] := _root_.id rfl
@[simp] theorem base_rp {xs} : V.base (.rp xs) = [] := _root_.id rfl
@[simp] theorem rdE_nil {h : Hp} : rdE [] h = none := _root_.id rfl
@[simp] theorem rdE_cons {i is} {h : Hp} : rdE (i :: is) h = some ⟨i :: is, [], false, h⟩ := _root_.id rfl
@[simp] theorem at_e {d k} : Id.at d (.e k) = false := _root_.id rfl
@[simp] theorem at_l' {d s q} : Id.at d (.l s q) = (d == some s) := _root_.id rfl
@[simp] theorem inS_e {ss k} : Id.inS ss (.e k) = false := _root_.id rfl
@[simp] theorem inS_l {ss s q} : Id.inS ss (.l s q) = ss.contains s := _root_.id rfl
@[simp] theorem killSE_nil {ss} : Env.gv0 ss [] = [] := _root_.id rfl
@[simp] theorem killSE_cons {ss s v} {e : Env} : Env.gv0 ss ((s, v) :: e) = (s, if v.hasS ss then .any else v) :: Env.gv0 ss e := _root_.id rfl
@[simp] theorem killSH_nil {ss} : Hp.gv0 ss [] = [] := _root_.id rfl
@[simp] theorem killSH_cons {ss i o} {h : Hp} : Hp.gv0 ss ((i, o) :: h) = if i.inS ss then Hp.gv0 ss h else (i, if o.hasS ss then .gone else o) :: Hp.gv0 ss h := by
 simp only [Hp.gv0, List.filter_cons]
 cases i.inS ss <;> simp
@[simp] theorem outS_nil {ss} : Hp.outS ss [] = [] := _root_.id rfl
@[simp] theorem outS_cons {ss i o} {h : Hp} : Hp.outS ss ((i, o) :: h) = if i.inS ss then Hp.outS ss h else (i, o) :: Hp.outS ss h := by
 simp only [Hp.outS, List.filter_cons]
 cases i.inS ss <;> simp
@[simp] theorem onl_nil {T} : Hp.onl T [] = [] := _root_.id rfl
@[simp] theorem onl_cons {T i o} {h : Hp} : Hp.onl T ((i, o) :: h) = if T.contains i then (i, o) :: Hp.onl T h else Hp.onl T h := by
 simp only [Hp.onl, List.filter_cons]
@[simp] theorem offB_nil {T d} : offB T d [] = true := _root_.id rfl
@[simp] theorem offB_cons {T d i o} {h : Hp} : offB T d ((i, o) :: h) = ((T.contains i || i.at d) && offB T d h) := _root_.id rfl
@[simp] theorem newS_nil : newS [] = [] := _root_.id rfl
@[simp] theorem newS_cons {i is} : newS (i :: is) = if i.1.op.mk then (match i.1.d with | some s => s :: newS is | none => newS is) else newS is := by
 obtain ⟨⟨d, g, op⟩, deps⟩ := i
 unfold newS
 rw [List.filterMap_cons]
 cases op.mk <;> cases d <;> simp
attribute [simp] IOp.mk
section
variable {ss : List Nat}
@[simp] theorem hasS_bp {j o} : V.hasS ss (.bp j o) = j.inS ss := _root_.id (by simp only [V.hasS])
@[simp] theorem hasS_ep {j k o} : V.hasS ss (.ep j k o) = j.inS ss := _root_.id (by simp only [V.hasS])
@[simp] theorem hasS_arc {j o n q} : V.hasS ss (.arc j o n q) = j.inS ss := _root_.id (by simp only [V.hasS])
@[simp] theorem hasS_arr {j o m} : V.hasS ss (.arr j o m) = j.inS ss := _root_.id (by simp only [V.hasS])
@[simp] theorem hasS_agg {cs} : V.hasS ss (.agg cs) = V.hM0 ss cs := _root_.id (by simp only [V.hasS])
@[simp] theorem hasS_tup {cs} : V.hasS ss (.tup cs) = V.hM0 ss cs := _root_.id (by simp only [V.hasS])
@[simp] theorem hasS_ifc {t v} : V.hasS ss (.ifc t v) = V.hasS ss v := _root_.id (by simp only [V.hasS])
@[simp] theorem hasS_any : V.hasS ss .any = false := _root_.id (by simp only [V.hasS])
@[simp] theorem hasS_c {v} : V.hasS ss (.c v) = false := _root_.id (by simp only [V.hasS])
@[simp] theorem hasS_nil : V.hasS ss .nil = false := _root_.id (by simp only [V.hasS])
@[simp] theorem hasS_lst {xs} : V.hasS ss (.lst xs) = false := _root_.id (by simp only [V.hasS])
@[simp] theorem hasS_rp {xs} : V.hasS ss (.rp xs) = false := _root_.id (by simp only [V.hasS])
@[simp] theorem hasSL_nil : V.hM0 ss [] = false := _root_.id (by simp only [V.hM0])
@[simp] theorem hasSL_cons {v vs} : V.hM0 ss (v :: vs) = (V.hasS ss v || V.hM0 ss vs) := _root_.id (by simp only [V.hM0])
@[simp] theorem ob_hasS_gone : Ob.hasS ss .gone = false := _root_.id rfl
@[simp] theorem ob_hasS_box {cs} : Ob.hasS ss (.box cs) = V.hM0 ss cs := _root_.id rfl
@[simp] theorem ob_hasS_row {ty sz own xs} : Ob.hasS ss (.row ty sz own xs) = false := _root_.id rfl
end
@[simp] theorem killsE_nil {i} : Env.cU0 i [] = [] := _root_.id rfl
@[simp] theorem killsE_cons {i s v} {e : Env} : Env.cU0 i ((s, v) :: e) = (s, if i.any fun i => v.has i then .any else v) :: Env.cU0 i e := _root_.id rfl
@[simp] theorem killsH_nil {i} : Hp.cU0 i [] = [] := _root_.id rfl
@[simp] theorem killsH_cons {i j o} {h : Hp} : Hp.cU0 i ((j, o) :: h) = if i.contains j then Hp.cU0 i h else (j, if i.any fun i => o.has i then .gone else o) :: Hp.cU0 i h := by
 simp only [Hp.cU0, List.filter_cons]
 cases i.contains j <;> simp
@[simp] theorem frz_nil {v} : Hp.frz v [] = [] := _root_.id rfl
@[simp] theorem frz_cons {v j o} {h : Hp} : Hp.frz v ((j, o) :: h) = (j, if v.has j then o.frz else o) :: Hp.frz v h := _root_.id rfl
@[simp] theorem set_nil' {i o} : Hp.set i o [] = [] := _root_.id rfl
@[simp] theorem set_cons' {i o j q} {h : Hp} : Hp.set i o ((j, q) :: h) = (j, if j = i then o else q) :: Hp.set i o h := by
 simp [Hp.set]
@[simp] theorem Ob.frz_row {ty sz own xs} : Ob.frz (.row ty sz own xs) = .row ty sz false xs := _root_.id rfl
@[simp] theorem Ob.frz_box {cs} : Ob.frz (.box cs) = .box cs := _root_.id rfl
@[simp] theorem Ob.frz_gone : Ob.frz .gone = .gone := _root_.id rfl
@[simp] theorem Ob.has_gone {i} : Ob.has i .gone = false := _root_.id rfl
@[simp] theorem Ob.has_box {i cs} : Ob.has i (.box cs) = V.hasL i cs := _root_.id rfl
@[simp] theorem Ob.has_row {i ty sz own xs} : Ob.has i (.row ty sz own xs) = false := _root_.id rfl
section
variable {i : Id}
@[simp] theorem has_bp {j o} : V.has i (.bp j o) = decide (j = i) := _root_.id (by simp only [V.has])
@[simp] theorem has_ep {j k o} : V.has i (.ep j k o) = decide (j = i) := _root_.id (by simp only [V.has])
@[simp] theorem has_arc {j o n q} : V.has i (.arc j o n q) = decide (j = i) := _root_.id (by simp only [V.has])
@[simp] theorem has_arr {j o m} : V.has i (.arr j o m) = decide (j = i) := _root_.id (by simp only [V.has])
@[simp] theorem has_agg {cs} : V.has i (.agg cs) = V.hasL i cs := _root_.id (by simp only [V.has])
@[simp] theorem has_fn {f cs} : V.has i (.fn f cs) = V.hasL i cs := _root_.id (by simp only [V.has])
@[simp] theorem has_tup {cs} : V.has i (.tup cs) = V.hasL i cs := _root_.id (by simp only [V.has])
@[simp] theorem has_ifc {t v} : V.has i (.ifc t v) = V.has i v := _root_.id (by simp only [V.has])
@[simp] theorem has_any : V.has i .any = false := _root_.id (by simp only [V.has])
@[simp] theorem has_c {v} : V.has i (.c v) = false := _root_.id (by simp only [V.has])
@[simp] theorem has_nil : V.has i .nil = false := _root_.id (by simp only [V.has])
@[simp] theorem has_lst {xs} : V.has i (.lst xs) = false := _root_.id (by simp only [V.has])
@[simp] theorem has_rp {xs} : V.has i (.rp xs) = false := _root_.id (by simp only [V.has])
@[simp] theorem hasL_nil : V.hasL i [] = false := _root_.id (by simp only [V.hasL])
@[simp] theorem hasL_cons {v vs} : V.hasL i (v :: vs) = (V.has i v || V.hasL i vs) := _root_.id (by simp only [V.hasL])
@[simp] theorem pure_agg {cs} : V.pure (.agg cs) = V.bD0 cs := _root_.id (by simp only [V.pure])
@[simp] theorem pure_fn {f cs} : V.pure (.fn f cs) = V.bD0 cs := _root_.id (by simp only [V.pure])
@[simp] theorem pure_tup {cs} : V.pure (.tup cs) = V.bD0 cs := _root_.id (by simp only [V.pure])
@[simp] theorem pure_ifc {t v} : V.pure (.ifc t v) = V.pure v := _root_.id (by simp only [V.pure])
@[simp] theorem pure_c {v} : V.pure (.c v) = true := _root_.id (by simp only [V.pure])
@[simp] theorem pure_lst {xs} : V.pure (.lst xs) = true := _root_.id (by simp only [V.pure])
@[simp] theorem pure_rp {xs} : V.pure (.rp xs) = true := _root_.id (by simp only [V.pure])
@[simp] theorem pureL_nil : V.bD0 [] = true := _root_.id (by simp only [V.bD0])
@[simp] theorem pureL_cons {v vs} : V.bD0 (v :: vs) = (V.pure v && V.bD0 vs) := _root_.id (by simp only [V.bD0])
end
@[simp] theorem kill_c {i v} : V.kill i (.c v) = .c v := _root_.id (by simp only [V.kill, V.has]; rfl)
@[simp] theorem kill_nil {i} : V.kill i .nil = .nil := _root_.id (by simp only [V.kill, V.has]; rfl)
@[simp] theorem kill_lst {i xs} : V.kill i (.lst xs) = .lst xs := _root_.id (by simp only [V.kill, V.has]; rfl)
@[simp] theorem kill_rp {i xs} : V.kill i (.rp xs) = .rp xs := _root_.id (by simp only [V.kill, V.has]; rfl)
@[simp] theorem kill_bp {i j o} : V.kill i (.bp j o) = if j = i then .any else .bp j o := by simp [V.kill, V.has]
@[simp] theorem kill_ep {i j k o} : V.kill i (.ep j k o) = if j = i then .any else .ep j k o := by simp [V.kill, V.has]
@[simp] theorem kill_arc {i j o n q} : V.kill i (.arc j o n q) = if j = i then .any else .arc j o n q := by simp [V.kill, V.has]
@[simp] theorem kill_arr {i j o m} : V.kill i (.arr j o m) = if j = i then .any else .arr j o m := by simp [V.kill, V.has]
@[simp] theorem kill_agg {i cs} : V.kill i (.agg cs) = if V.hasL i cs then .any else .agg cs := _root_.id (by simp only [V.kill, V.has]; rfl)
@[simp] theorem kill_fn {i f cs} : V.kill i (.fn f cs) = if V.hasL i cs then .any else .fn f cs := _root_.id (by simp only [V.kill, V.has]; rfl)
@[simp] theorem kill_tup {i cs} : V.kill i (.tup cs) = if V.hasL i cs then .any else .tup cs := _root_.id (by simp only [V.kill, V.has]; rfl)
@[simp] theorem kill_ifc {i t v} : V.kill i (.ifc t v) = if v.has i then .any else .ifc t v := _root_.id (by simp only [V.kill, V.has]; rfl)
attribute [simp] V.scalar scalars Value.oneCell' lG0 ci0 hpE setAt
section
variable {K : V -> Prop} {Ks : List V -> Prop} {nl : Bool} {ks : List Id}
@[simp] theorem view_c {v} : V.view hp (.c v) K = K (.c v) := _root_.id rfl
@[simp] theorem view_nil : V.view hp .nil K = K (.lst []) := _root_.id rfl
@[simp] theorem view_lst {xs} : V.view hp (.lst xs) K = K (.lst xs) := _root_.id rfl
@[simp] theorem view_rp {xs} : V.view hp (.rp xs) K = K (.rp xs) := _root_.id rfl
@[simp] theorem view_fn {f cs} : V.view hp (.fn f cs) K = K (.fn f cs) := _root_.id rfl
theorem rh0 {i o m} : V.view hp (.arr i o m) K = objK hp i fun ob => rowK ob fun _ _ own xs => own = false /\ o + m <= xs.length /\ K (.lst ((xs.drop o).take m)) := by
 rw [dQ0]; simp only [V.view]; apply propext
 constructor
 ·rintro ⟨ty, sz, xs, h1, h2⟩; exact ⟨ty, sz, false, xs, h1, rfl, h2⟩
 ·rintro ⟨ty, sz, own, xs, h1, rfl, h2⟩; exact ⟨ty, sz, xs, h1, h2⟩
@[simp] theorem view_arr {i o m} : V.view hp (.arr i o m) K = objK hp i (hold fun ob => rowK ob (hold fun _ _ own xs => own = false /\ o + m <= xs.length /\ K (.lst ((xs.drop o).take m)))) := rh0
@[simp] theorem view_agg {cs} : V.view hp (.agg cs) K = V.dS0 hp cs (hold fun us => K (.agg us)) := by simp only [V.view, hold]
@[simp] theorem view_tup {cs} : V.view hp (.tup cs) K = V.dS0 hp cs (hold fun us => K (.tup us)) := by simp only [V.view, hold]
@[simp] theorem view_ifc {t v} : V.view hp (.ifc t v) K = V.view hp v (hold fun u => K (.ifc t u)) := by simp only [V.view, hold]
@[simp] theorem viewL_nil : V.dS0 hp [] Ks = Ks [] := _root_.id rfl
@[simp] theorem th0 {v vs} : V.dS0 hp (v :: vs) Ks = V.view hp v (hold fun u => V.dS0 hp vs (hold fun us => Ks (u :: us))) := by simp only [V.dS0, hold]
@[simp] theorem see_c {v} : V.see nl ks hp (.c v) K = K (.c v) := _root_.id rfl
@[simp] theorem see_nil : V.see nl ks hp .nil K = if nl then K .nil else K (.lst []) := _root_.id rfl
@[simp] theorem see_lst {xs} : V.see nl ks hp (.lst xs) K = K (.lst xs) := _root_.id rfl
@[simp] theorem see_rp {xs} : V.see nl ks hp (.rp xs) K = K (.rp xs) := _root_.id rfl
@[simp] theorem see_bp {i o} : V.see nl ks hp (.bp i o) K = K (.bp i o) := _root_.id rfl
@[simp] theorem see_arc {i o n q} : V.see nl ks hp (.arc i o n q) K = V.see nl ks hp (.arr i o n) K := _root_.id rfl
theorem see_arr0 {i o m} : V.see nl ks hp (.arr i o m) K = if ks.contains i then K (.arr i o m) else objK hp i fun ob => rowK ob fun _ _ own xs => own = false /\ o + m <= xs.length /\ K (.lst ((xs.drop o).take m)) := by
 simp only [V.see]
 split
 ·rfl
 ·exact rh0
@[simp] theorem see_arr {i o m} : V.see nl ks hp (.arr i o m) K = if ks.contains i then K (.arr i o m) else objK hp i (hold fun ob => rowK ob (hold fun _ _ own xs => own = false /\ o + m <= xs.length /\ K (.lst ((xs.drop o).take m)))) := see_arr0
@[simp] theorem see_agg {cs} : V.see nl ks hp (.agg cs) K = V.seeL nl ks hp cs (hold fun us => K (.agg us)) := by simp only [V.see, hold]
@[simp] theorem see_tup {cs} : V.see nl ks hp (.tup cs) K = V.seeL nl ks hp cs (hold fun us => K (.tup us)) := by simp only [V.see, hold]
@[simp] theorem see_fn {f cs} : V.see nl ks hp (.fn f cs) K = V.seeL nl ks hp cs (hold fun us => K (.fn f us)) := by simp only [V.see, hold]
@[simp] theorem see_ifc {t v} : V.see nl ks hp (.ifc t v) K = V.see nl ks hp v (hold fun u => K (.ifc t u)) := by simp only [V.see, hold]
@[simp] theorem seeL_nil : V.seeL nl ks hp [] Ks = Ks [] := _root_.id rfl
@[simp] theorem seeL_cons {v vs} : V.seeL nl ks hp (v :: vs) Ks = V.see nl ks hp v (hold fun u => V.seeL nl ks hp vs (hold fun us => Ks (u :: us))) := by simp only [V.seeL, hold]
end
theorem if0 {env : Env} {hp : Hp} {d : Option Nat} {f : Operand} {xs : List Operand} {K : Env -> Hp -> Prop} {Kp : V -> Hp -> Prop} {g : Nat} {caps vs args : List V} {v : V} (h : Ret P g args v) (hf : Env.ev env f = some (.fn g caps)) (hx : xs.mapM (Env.ev env) = some vs)
  (hv : V.dS0 (Hp.frz (.tup (vs ++ caps)) hp) (vs ++ caps) (· = args)) (hp1 : V.bD0 args = true) (hp2 : v.pure = true) (hK : K (env.put d v) (Hp.frz (.tup (vs ++ caps)) hp)) : bm0 P env hp d f xs K Kp := by
 refine .inl ⟨g, caps, vs, hf, hx, ?_⟩
 obtain ⟨us, rfl, k⟩ := do0 hv
 exact k _ ⟨hp1, h.use ⟨hp2, hK⟩⟩
theorem qk0 {env : Env} {hp : Hp} {d : Option Nat} {f : Operand} {xs : List Operand} {K Kp : V -> Option Eff -> Prop} {g : Nat} {caps vs args : List V} {v : V} (h : Ret P g args v) (hf : Env.ev env f = some (.fn g caps)) (hx : xs.mapM (Env.ev env) = some vs)
  (hv : V.dS0 [] (vs ++ caps) (· = args)) (hp1 : V.bD0 args = true) (hp2 : v.pure = true) (hK : K v none) : bl0 P env hp d f xs K Kp := by
 refine .inl ⟨g, caps, vs, hf, hx, ?_⟩
 obtain ⟨us, rfl, k⟩ := do0 hv
 exact k _ ⟨hp1, .ret v [], h, hp2, hK⟩
end Go.Am
end

section
namespace Go.Am
variable {P : Program} {n : Nat} {env : Env} {hp : Hp}
theorem cR0 {xs : List (List V)} {k : Nat} {e : List V} {K : List V -> Prop} (h : xs[k]? = some e) (hK : K e) : gr0 xs k K := ⟨e, h, hK⟩
theorem qu0 {α : Type} {f : α -> List V} {l : List α} {k : Nat} {K : List V -> Prop} (h : k < l.length) (hK : K (f (l[k]'h))) : gr0 (l.map f) k K := ⟨f l[k], by simp [h], hK⟩
@[simp] theorem map_set_self {α β : Type} {f : α -> β} {l : List α} {k : Nat} (h : k < l.length) : (l.map f).set k (f l[k]) = l.map f := by
 apply List.ext_getElem
 ·simp
 ·intro j h1 h2
  rw [List.getElem_set]
  split
  ·rename_i e; subst e; simp
  ·rfl
theorem wrap64 {x : Int} (h1 : -9223372036854775808 <= x) (h2 : x < 9223372036854775808) : IntKind.i64.wrap x = x := by
 simp only [IntKind.wrap, IntKind.bits, IntKind.signed]; simp; omega
def ForI (m : Nat) (E : Nat -> Env) (H : Nat -> Hp) : Nat -> Env -> Hp -> Prop := fun k e h => ∃ i, i <= m /\ k = m - i /\ e = E i /\ h = H i
def ForN (m : Nat) (E : Nat -> Env) (H : Nat -> Hp) (i : Nat) (e' : Env) (h' : Hp) : Prop := ∃ m' E' h'', m' < m - i /\ ForI m E H m' E' h'' /\ Wk E' h'' e' h'
theorem ForN.of {m i : Nat} {E : Nat -> Env} {H : Nat -> Hp} {e' : Env} {h' : Hp} (hi : i < m) (h : Wk (E (i + 1)) (H (i + 1)) e' h') : ForN m E H i e' h' := ⟨m - (i + 1), _, _, by omega, ⟨i + 1, hi, rfl, rfl, rfl⟩, h⟩
theorem aA0 {b : Cd} {env : Env} {hp : Hp} {Q : Qs} (m : Nat) (E : Nat -> Env) (H : Nat -> Hp) (h0 : Wk (E 0) (H 0) env hp)
  (hs : ∀ i, i <= m -> vc P b (E i) (H i) (hold (mm0 (fun e' h' => ForN m E H i e' h') Q))) : bt0 P b env hp Q := by
 refine ⟨ForI m E H, ⟨m, _, _, ⟨0, Nat.zero_le _, rfl, rfl, rfl⟩, h0⟩, ?_⟩
 rintro k e h ⟨i, hi, rfl, rfl, rfl⟩
 exact hs i hi
def WhI {α : Type} (mu : α -> Nat) (E : α -> Env) (H : α -> Hp) (ok : α -> Prop) : Nat -> Env -> Hp -> Prop := fun k e h => ∃ x, ok x /\ k = mu x /\ e = E x /\ h = H x
def WhN {α : Type} (mu : α -> Nat) (E : α -> Env) (H : α -> Hp) (ok : α -> Prop) (x : α) (e' : Env) (h' : Hp) : Prop := ∃ m' E' h'', m' < mu x /\ WhI mu E H ok m' E' h'' /\ Wk E' h'' e' h'
theorem WhN.of {α : Type} {mu : α -> Nat} {E : α -> Env} {H : α -> Hp} {ok : α -> Prop} {x : α} {e' : Env} {h' : Hp} (y : α) (hy : ok y) (hlt : mu y < mu x) (h : Wk (E y) (H y) e' h') : WhN mu E H ok x e' h' := ⟨mu y, _, _, hlt, ⟨y, hy, rfl, rfl, rfl⟩, h⟩
theorem ap0 {α : Type} {b : Cd} {env : Env} {hp : Hp} {Q : Qs} (mu : α -> Nat) (E : α -> Env) (H : α -> Hp) (ok : α -> Prop) (x0 : α) (hx0 : ok x0) (h0 : Wk (E x0) (H x0) env hp)
  (hs : ∀ x, ok x -> vc P b (E x) (H x) (hold (mm0 (fun e' h' => WhN mu E H ok x e' h') Q))) : bt0 P b env hp Q := by
 refine ⟨WhI mu E H ok, ⟨_, _, _, ⟨x0, hx0, rfl, rfl, rfl⟩, h0⟩, ?_⟩
 rintro k e h ⟨x, hx, rfl, rfl, rfl⟩
 exact hs x hx
theorem Wk.subs {E : Env} {h : Hp} (hE : ∀ p ∈ E, aS0 env p.1 (· = p.2)) (hh : ∀ p ∈ h, objK hp p.1 (· = p.2)) : Wk E h env hp :=
 .sub (fun p hp => by have := hE p hp; rw [ek0] at this; obtain ⟨v, h1, rfl⟩ := this; exact h1) (fun p hp' => by have := hh p hp'; rw [iI0] at this; obtain ⟨v, h1, rfl⟩ := this; exact h1)
def mapK (f : Id -> Option Id) (v : V) (K : V -> Prop) : Prop := ∃ u, v.aQ0 f = some u /\ K u
def fp0 (f : Id -> Option Id) (v : List V) (K : List V -> Prop) : Prop := ∃ u, V.eS0 f v = some u /\ K u
def getO (hp : Hp) (i : Id) : Ob := (hp.lookup i).getD .gone
def Ob.cellsOf : Ob -> List V
 | .box cs => cs
 | _ => []
def handO (ids : List Id) (hp : Hp) : Ob -> (Ob -> Prop) -> Prop
 | .box cs, K => V.seeL true ids hp cs fun us => fp0 (toE ids 0) us fun us' => K (.box us')
 | .row ty sz own xs, K => K (.row ty sz own xs)
 | .gone, K => K .gone
 | .mpo kd kvs, K => K .gone
@[simp] theorem handV_nil {ids} {K : List Ob -> Prop} : fm0 ids hp [] K = K [] := _root_.id rfl
theorem sX0 {ids i is} {K : List Ob -> Prop} : fm0 ids hp (i :: is) K = handO ids hp (getO hp i) fun o => fm0 ids hp is fun obs => K (o :: obs) := by
 simp only [fm0, getO]
 cases hp.lookup i with
 | none => rfl
 | some o => cases o <;> rfl
@[simp] theorem handV_cons_h {ids i is} {K : List Ob -> Prop} : fm0 ids hp (i :: is) K = handO ids hp (getO hp i) (hold fun o => fm0 ids hp is (hold fun obs => K (o :: obs))) := sX0
@[simp] theorem handO_box {ids cs} {K : Ob -> Prop} : handO ids hp (.box cs) K = V.seeL true ids hp cs (hold fun us => fp0 (toE ids 0) us (hold fun us' => K (.box us'))) := _root_.id rfl
@[simp] theorem handO_row {ids ty sz own xs} {K : Ob -> Prop} : handO ids hp (.row ty sz own xs) K = K (.row ty sz own xs) := _root_.id rfl
@[simp] theorem handO_gone {ids} {K : Ob -> Prop} : handO ids hp .gone K = K .gone := _root_.id rfl
@[simp] theorem getO_nil {i} : getO [] i = .gone := _root_.id rfl
@[simp] theorem getO_cons {i j o} {h : Hp} : getO ((j, o) :: h) i = if i = j then o else getO h i := by
 simp only [getO, List.lookup_cons]
 by_cases e : i = j
 ·subst e; simp
 ·have : (i == j) = false := by simpa using e
  rw [this, if_neg e]
@[simp] theorem boxes_nil : boxes hp [] = [] := _root_.id rfl
@[simp] theorem boxes_cons {i is} : boxes hp (i :: is) = (getO hp i).cellsOf ++ boxes hp is := by
 simp only [boxes, List.flatMap_cons, getO]
 cases hp.lookup i with
 | none => rfl
 | some o => cases o <;> rfl
@[simp] theorem cellsOf_box {cs} : Ob.cellsOf (.box cs) = cs := _root_.id rfl
@[simp] theorem cellsOf_row {ty sz own xs} : Ob.cellsOf (.row ty sz own xs) = [] := _root_.id rfl
@[simp] theorem cellsOf_gone : Ob.cellsOf .gone = [] := _root_.id rfl
theorem outV_eq {ids v} {K : V -> List Ob -> Prop} : outV hp ids v K = V.see false ids (Hp.frz (.tup (V.cA0 ids (v :: boxes hp ids))) hp) v (hold fun u => mapK (toE ids 0) u (hold fun u' => fm0 ids (Hp.frz (.tup (V.cA0 ids (v :: boxes hp ids))) hp) ids (hold fun obs => K u' obs))) := _root_.id rfl
attribute [simp] outV_eq
section
variable {f : Id -> Option Id} {K : V -> Prop} {Ks : List V -> Prop}
theorem eq0 {α : Type} {o : Option α} {g : α -> V} : (∃ u, o.map g = some u /\ K u) = ∃ y, o = some y /\ K (g y) := by
 cases o <;> simp
def idK (o : Option Id) (K : Id -> Prop) : Prop := ∃ i, o = some i /\ K i
@[simp] theorem idK_some {i} {K : Id -> Prop} : idK (some i) K = K i := by simp [idK]
@[simp] theorem idK_none {K : Id -> Prop} : idK none K = False := by simp [idK]
@[simp] theorem mapK_c {v} : mapK f (.c v) K = K (.c v) := by simp [mapK, V.aQ0]
@[simp] theorem mapK_nil : mapK f .nil K = K .nil := by simp [mapK, V.aQ0]
@[simp] theorem mapK_lst {xs} : mapK f (.lst xs) K = K (.lst xs) := by simp [mapK, V.aQ0]
@[simp] theorem mapK_rp {xs} : mapK f (.rp xs) K = K (.rp xs) := by simp [mapK, V.aQ0]
@[simp] theorem mapK_bp {i o} : mapK f (.bp i o) K = idK (f i) (hold fun j => K (.bp j o)) := by simp only [mapK, V.aQ0, eq0, idK, hold]
@[simp] theorem mapK_ep {i k o} : mapK f (.ep i k o) K = idK (f i) (hold fun j => K (.ep j k o)) := by simp only [mapK, V.aQ0, eq0, idK, hold]
@[simp] theorem mapK_arc {i o n q} : mapK f (.arc i o n q) K = idK (f i) (hold fun j => K (.arc j o n q)) := by simp only [mapK, V.aQ0, eq0, idK, hold]
@[simp] theorem mapK_arr {i o m} : mapK f (.arr i o m) K = idK (f i) (hold fun j => K (.arr j o m)) := by simp only [mapK, V.aQ0, eq0, idK, hold]
@[simp] theorem mapK_agg {cs} : mapK f (.agg cs) K = fp0 f cs (hold fun us => K (.agg us)) := by simp only [mapK, V.aQ0, eq0, fp0, hold]
@[simp] theorem mapK_fn {g cs} : mapK f (.fn g cs) K = fp0 f cs (hold fun us => K (.fn g us)) := by simp only [mapK, V.aQ0, eq0, fp0, hold]
@[simp] theorem mapK_tup {cs} : mapK f (.tup cs) K = fp0 f cs (hold fun us => K (.tup us)) := by simp only [mapK, V.aQ0, eq0, fp0, hold]
@[simp] theorem mapK_ifc {t v} : mapK f (.ifc t v) K = mapK f v (hold fun u => K (.ifc t u)) := by simp only [mapK, V.aQ0, eq0, hold]
@[simp] theorem mapLK_nil : fp0 f [] Ks = Ks [] := by simp [fp0, V.eS0]
@[simp] theorem s30 {v vs} : fp0 f (v :: vs) Ks = mapK f v (hold fun u => fp0 f vs (hold fun us => Ks (u :: us))) := by
 simp only [fp0, mapK, V.eS0, hold]; apply propext
 constructor
 ·rintro ⟨us, h1, h2⟩
  simp only [Option.bind_eq_some_iff, Option.map_eq_some_iff] at h1
  obtain ⟨u, h1, us', h3, rfl⟩ := h1
  exact ⟨u, h1, us', h3, h2⟩
 ·rintro ⟨u, h1, us, h2, h3⟩; exact ⟨u :: us, by simp [h1, h2], h3⟩
end
attribute [simp] toE esL V.hide V.cA0
theorem endR {k : Nat} {rs : List IOp} {Q : Res -> Prop} (E : Env) (h : Hp) (hw : Wk E h env hp) (outs : List Id) (hnd : (esL 0 k ++ outs).Nodup)
  (hr : resV h (Env.ev E) rs fun vs => outV h (esL 0 k ++ outs) (lG0 vs) fun u obs => Q (.ret u obs)) : wkQ (retX k rs Q) .ret env hp := ⟨E, h, hw, outs, hnd, hr⟩
theorem endN {k : Nat} {rs : List IOp} {Q : Res -> Prop} (E : Env) (h : Hp) (hw : Wk E h env hp) (outs : List Id) (hnd : (esL 0 k ++ outs).Nodup)
  (hr : resV h (Env.ev E) rs fun vs => outV h (esL 0 k ++ outs) (lG0 vs) fun u obs => Q (.ret u obs)) : wkQ (retX k rs Q) .normal env hp := ⟨E, h, hw, outs, hnd, hr⟩
end Go.Am
end

section
namespace Go.Am
variable {P : Program} {n : Nat} {env : Env} {hp : Hp}
def br0 (P : Program) (g : Nat) (args : List V) (obs : List Ob) (env : Env) (hp : Hp) (ids : List Id) (d : Option Nat) (K : Env -> Hp -> Prop) (Kp : V -> Hp -> Prop) : Prop :=
 J P g args obs fun r => match r with
  | .ret v obs' => ∃ base, (d = some base \/ obs'.length <= ids.length) /\ gC0 env hp ids base v obs' fun v' env' hp' => K (env'.put d v') hp'
  | .pan v obs' => gC0 env hp ids 0 v obs' fun v' _ hp' => Kp v' hp'
theorem ad0 {d : Option Nat} {f : Operand} {xs : List Operand} {K : Env -> Hp -> Prop} {Kp : V -> Hp -> Prop} {g : Nat} {caps vs : List V} (ids : List Id) (hf : Env.ev env f = some (.fn g caps)) (hx : xs.mapM (Env.ev env) = some vs) (hnd : ids.Nodup)
  (h : V.seeL false ids (Hp.frz (.tup (V.cA0 ids (vs ++ caps ++ boxes hp ids))) hp) (vs ++ caps) (hold fun us => fp0 (toE ids 0) us (hold fun args =>
   fm0 ids (Hp.frz (.tup (V.cA0 ids (vs ++ caps ++ boxes hp ids))) hp) ids (hold fun obs => br0 P g args obs env (Hp.frz (.tup (V.cA0 ids (vs ++ caps ++ boxes hp ids))) hp) ids d K Kp)))) : bm0 P env hp d f xs K Kp :=
 .inr ⟨g, caps, vs, ids, hf, hx, hnd, h⟩
theorem ae0 {g : Nat} {args : List V} {obs obs' : List Ob} {ids : List Id} {d : Option Nat} {K : Env -> Hp -> Prop} {Kp : V -> Hp -> Prop} {v : V} (base : Nat) (h : J P g args obs (· = .ret v obs')) (hb : d = some base \/ obs'.length <= ids.length)
  (hK : gC0 env hp ids base v obs' (hold fun v' env' hp' => K (env'.put d v') hp')) : br0 P g args obs env hp ids d K Kp := J.mono h fun r e => by subst e; exact ⟨base, hb, hK⟩
theorem bh0 {g : Nat} {args : List V} {obs obs' : List Ob} {ids : List Id} {d : Option Nat} {K : Env -> Hp -> Prop} {Kp : V -> Hp -> Prop} {v : V} (h : J P g args obs (· = .pan v obs'))
  (hK : gC0 env hp ids 0 v obs' fun v' _ hp' => Kp v' hp') : br0 P g args obs env hp ids d K Kp := J.mono h fun r e => by subst e; exact hK
def n50 (f : Id -> Option Id) (o : Ob) (K : Ob -> Prop) : Prop := ∃ q, o.aQ0 f = some q /\ K q
def nf0 (f : Id -> Option Id) (os : List Ob) (K : List Ob -> Prop) : Prop := ∃ q, os.mapM (Ob.aQ0 f) = some q /\ K q
section
variable {f : Id -> Option Id} {K : Ob -> Prop} {Ks : List Ob -> Prop}
@[simp] theorem mapOK_gone : n50 f .gone K = K .gone := by simp [n50, Ob.aQ0]
@[simp] theorem mapOK_row {ty sz own xs} : n50 f (.row ty sz own xs) K = K (.row ty sz own xs) := by simp [n50, Ob.aQ0]
@[simp] theorem mapOK_box {cs} : n50 f (.box cs) K = fp0 f cs (hold fun us => K (.box us)) := by
 simp only [n50, Ob.aQ0, fp0, hold]
 cases V.eS0 f cs <;> simp
@[simp] theorem mapOsK_nil : nf0 f [] Ks = Ks [] := by simp [nf0]
@[simp] theorem mapOsK_cons {o os} : nf0 f (o :: os) Ks = n50 f o (hold fun q => nf0 f os (hold fun qs => Ks (q :: qs))) := by
 simp only [nf0, n50, List.mapM_cons, hold]; apply propext
 constructor
 ·rintro ⟨us, h1, h2⟩
  simp only [Option.bind_eq_bind, Option.bind_eq_some_iff, Option.pure_def, Option.some.injEq] at h1
  obtain ⟨u, h1, us', h3, rfl⟩ := h1
  exact ⟨u, h1, us', h3, h2⟩
 ·rintro ⟨u, h1, us, h2, h3⟩; exact ⟨u :: us, by simp [h1, h2], h3⟩
end
theorem backV_eq {ids base v obs} {K : V -> Env -> Hp -> Prop} : gC0 env hp ids base v obs K = ((newL base 0 (obs.length - ids.length)).all (fun i => !ids.contains i) = true /\ mapK (back ids base obs) v (hold fun v' => nf0 (back ids base obs) obs (hold fun os' =>
  K v' (Env.cU0 (newL base 0 (obs.length - ids.length)) env) (hpN (ids ++ newL base 0 (obs.length - ids.length)) os' ++ fu0 ids (Hp.cU0 (newL base 0 (obs.length - ids.length)) hp))))) := by
 simp only [gC0, mapK, nf0, hold]; apply propext
 constructor
 ·rintro ⟨h1, v', os', h2, h3, h4⟩; exact ⟨h1, v', h2, os', h3, h4⟩
 ·rintro ⟨h1, v', h2, os', h3, h4⟩; exact ⟨h1, v', os', h2, h3, h4⟩
attribute [simp] backV_eq newL hpN
@[simp] theorem restH_nil {ids} : fu0 ids [] = [] := _root_.id rfl
@[simp] theorem restH_cons {ids i o} {h : Hp} : fu0 ids ((i, o) :: h) = if ids.contains i then fu0 ids h else (i, o) :: fu0 ids h := by
 simp only [fu0, List.filter_cons]
 cases ids.contains i <;> simp
@[simp] theorem back_e {ids base obs j} : back ids base obs (.e j) = match ids[j]? with
  | some i => match obs[j]? with
   | some .gone => none
   | some _ => some i
   | none => none
  | none => if j < obs.length then some (.l base (j - ids.length)) else none := _root_.id rfl
@[simp] theorem killsE_none (e : Env) : Env.cU0 [] e = e := by
 induction e with
 | nil => rfl
 | cons p e ih => obtain ⟨s, v⟩ := p; simp [ih]
def aF0 (P : Program) (g : Nat) (args : List V) (obs : List Ob) (env : Env) (hp : Hp) (ids : List Id) (d : Option Nat) (T : List Id) (hp0 : Hp) (K Kp : V -> Option Eff -> Prop) : Prop :=
 ∃ r, J P g args obs (· = r) /\ match r with
  | .ret v obs' => ∃ base, (d = some base \/ obs'.length <= ids.length) /\ gC0 env hp ids base v obs' fun v' _ h => offB T d h = true /\ K v' (some ⟨[], T, true, h ++ fu0 T hp0⟩)
  | .pan v obs' => gC0 env hp ids 0 v obs' fun v' _ h => offB T none h = true /\ Kp v' (some ⟨[], T, false, h ++ fu0 T hp0⟩)
theorem cr0 {d : Option Nat} {f : Operand} {xs : List Operand} {K Kp : V -> Option Eff -> Prop} {g : Nat} {caps vs : List V} (T ids : List Id) (hf : Env.ev env f = some (.fn g caps)) (hx : xs.mapM (Env.ev env) = some vs) (hnd : ids.Nodup)
  (h : V.seeL false ids (Hp.frz (.tup (V.cA0 ids (vs ++ caps ++ boxes (Hp.onl T hp) ids))) (Hp.onl T hp)) (vs ++ caps) (hold fun us => fp0 (toE ids 0) us (hold fun args =>
   fm0 ids (Hp.frz (.tup (V.cA0 ids (vs ++ caps ++ boxes (Hp.onl T hp) ids))) (Hp.onl T hp)) ids (hold fun obs =>
    aF0 P g args obs env (Hp.frz (.tup (V.cA0 ids (vs ++ caps ++ boxes (Hp.onl T hp) ids))) (Hp.onl T hp)) ids d T hp K Kp)))) : bl0 P env hp d f xs K Kp :=
 .inr ⟨T, g, caps, vs, ids, hf, hx, hnd, h⟩
theorem ch0 {g : Nat} {args : List V} {obs obs' : List Ob} {ids T : List Id} {hp0 : Hp} {d : Option Nat} {K Kp : V -> Option Eff -> Prop} {v : V} (base : Nat) (h : J P g args obs (· = .ret v obs')) (hb : d = some base \/ obs'.length <= ids.length)
  (hK : gC0 env hp ids base v obs' (hold fun v' _ h => offB T d h = true /\ K v' (some ⟨[], T, true, h ++ fu0 T hp0⟩))) : aF0 P g args obs env hp ids d T hp0 K Kp := ⟨_, h, base, hb, hK⟩
theorem sR0 {g : Nat} {args : List V} {obs obs' : List Ob} {ids T : List Id} {hp0 : Hp} {d : Option Nat} {K Kp : V -> Option Eff -> Prop} {v : V} (h : J P g args obs (· = .pan v obs'))
  (hK : gC0 env hp ids 0 v obs' (hold fun v' _ h => offB T none h = true /\ Kp v' (some ⟨[], T, false, h ++ fu0 T hp0⟩))) : aF0 P g args obs env hp ids d T hp0 K Kp := ⟨_, h, hK⟩
end Go.Am
end

section
namespace Go.Am
variable {P : Program} {n : Nat} {env : Env} {hp : Hp}
def V.flat : V -> Bool
 | .c v => v.oneCell'
 | .lst _ => true
 | .rp _ => true
 | _ => false
def qy0 (cs : List V) : Bool := cs.all V.flat
theorem cT0 {v : V} {cs : List V} : qy0 (v :: cs) = (v.flat && qy0 cs) := _root_.id rfl
section
variable {cs : List V} (h : qy0 cs = true)
include h
theorem mo0 (i : Id) : V.hasL i cs = false := by
 induction cs with
 | nil => simp
 | cons v cs ih =>
  rw [cT0, Bool.and_eq_true] at h
  simp [ih h.2]
  have hv := h.1
  cases v <;> first | (simp [V.flat] at hv; done) | simp
theorem mX0 (ss : List Nat) : V.hM0 ss cs = false := by
 induction cs with
 | nil => simp
 | cons v cs ih =>
  rw [cT0, Bool.and_eq_true] at h
  simp [ih h.2]
  have hv := h.1
  cases v <;> first | (simp [V.flat] at hv; done) | simp
theorem mZ0 (i : Id) : cs.map (V.kill i) = cs := by
 induction cs with
 | nil => simp
 | cons v cs ih =>
  rw [cT0, Bool.and_eq_true] at h
  simp [ih h.2]
  have hv := h.1
  cases v <;> first | (simp [V.flat] at hv; done) | simp
theorem iz0 : scalars cs = true := by
 induction cs with
 | nil => simp
 | cons v cs ih =>
  rw [cT0, Bool.and_eq_true] at h
  simp only [scalars, Bool.and_eq_true]
  refine ⟨?_, ih h.2⟩
  have hv := h.1
  cases v <;> first | exact hv | (simp [V.flat] at hv; done)
theorem iy0 : V.bD0 cs = true := by
 induction cs with
 | nil => simp
 | cons v cs ih =>
  rw [cT0, Bool.and_eq_true] at h
  simp [ih h.2]
  have hv := h.1
  cases v <;> first | (simp [V.flat] at hv; done) | simp
theorem kx0 (K : List V -> Prop) : V.dS0 hp cs K = K cs := by
 induction cs generalizing K with
 | nil => simp
 | cons v cs ih =>
  rw [cT0, Bool.and_eq_true] at h
  rw [th0]
  simp only [hold, ih h.2]
  have hv := h.1
  cases v <;> first | (simp [V.flat] at hv; done) | simp
theorem pj0 (nl : Bool) (ks : List Id) (K : List V -> Prop) : V.seeL nl ks hp cs K = K cs := by
 induction cs generalizing K with
 | nil => simp
 | cons v cs ih =>
  rw [cT0, Bool.and_eq_true] at h
  rw [seeL_cons]
  simp only [hold, ih h.2]
  have hv := h.1
  cases v <;> first | (simp [V.flat] at hv; done) | simp
theorem pi0 (f : Id -> Option Id) (K : List V -> Prop) : fp0 f cs K = K cs := by
 induction cs generalizing K with
 | nil => simp
 | cons v cs ih =>
  rw [cT0, Bool.and_eq_true] at h
  rw [s30]
  simp only [hold, ih h.2]
  have hv := h.1
  cases v <;> first | (simp [V.flat] at hv; done) | simp
theorem mY0 (ks : List Id) : V.cA0 ks cs = cs := by
 induction cs with
 | nil => simp
 | cons v cs ih =>
  rw [cT0, Bool.and_eq_true] at h
  simp [ih h.2]
  have hv := h.1
  cases v <;> first | (simp [V.flat] at hv; done) | simp
end
def bk0 (P : Program) (g : Nat) (args : List V) (K : V -> Prop) : Prop := ∃ v, Ret P g args v /\ v.pure = true /\ K v
theorem aa0 {g : Nat} {args : List V} {K : V -> Prop} {v : V} (h : Ret P g args v) (hp : v.pure = true) (hK : K v) : bk0 P g args K := ⟨v, h, hp, hK⟩
theorem ab0 {env : Env} {hp : Hp} {d : Option Nat} {f : Operand} {xs : List Operand} {K : Env -> Hp -> Prop} {Kp : V -> Hp -> Prop}
  (h : evK env f (hold fun fv => fnK fv (hold fun g caps => evsK env xs (hold fun vs => V.dS0 (Hp.frz (.tup (vs ++ caps)) hp) (vs ++ caps) (hold fun args => V.bD0 args = true /\ bk0 P g args (hold fun v => K (env.put d v) (Hp.frz (.tup (vs ++ caps)) hp))))))) : bm0 P env hp d f xs K Kp := by
 rw [b20] at h
 obtain ⟨fv, h1, h⟩ := h
 simp only [hold] at h
 replace h : ∃ g caps, fv = .fn g caps /\ evsK env xs fun vs => V.dS0 (Hp.frz (.tup (vs ++ caps)) hp) (vs ++ caps) fun args => V.bD0 args = true /\ bk0 P g args fun v => K (env.put d v) (Hp.frz (.tup (vs ++ caps)) hp) := by
  cases fv <;> first | exact h.elim | exact ⟨_, _, rfl, h⟩
 obtain ⟨g, caps, rfl, h⟩ := h
 rw [lm0] at h
 obtain ⟨vs, h2, h⟩ := h
 obtain ⟨us, ⟨h3, v, h4, h5, h6⟩, h7⟩ := do0 h
 exact if0 h4 h1 h2 (h7 _ rfl) h3 h5 h6
theorem al0 {env : Env} {hp : Hp} {d : Option Nat} {f : Operand} {xs : List Operand} {K Kp : V -> Option Eff -> Prop}
  (h : evK env f (hold fun fv => fnK fv (hold fun g caps => evsK env xs (hold fun vs => V.dS0 [] (vs ++ caps) (hold fun args => V.bD0 args = true /\ bk0 P g args (hold fun v => K v none)))))) : bl0 P env hp d f xs K Kp := by
 rw [b20] at h
 obtain ⟨fv, h1, h⟩ := h
 simp only [hold] at h
 replace h : ∃ g caps, fv = .fn g caps /\ evsK env xs fun vs => V.dS0 [] (vs ++ caps) fun args => V.bD0 args = true /\ bk0 P g args fun v => K v none := by
  cases fv <;> first | exact h.elim | exact ⟨_, _, rfl, h⟩
 obtain ⟨g, caps, rfl, h⟩ := h
 rw [lm0] at h
 obtain ⟨vs, h2, h⟩ := h
 obtain ⟨us, ⟨h3, v, h4, h5, h6⟩, h7⟩ := do0 h
 exact qk0 h4 h1 h2 (h7 _ rfl) h3 h5 h6
theorem in0 {α : Type} {f : α -> List V} {l : List α} {k : Nat} {K : List V -> Prop} (h : k < l.length) : gr0 (l.map f) k K = K (f (l[k]'h)) := by
 apply propext
 constructor
 ·rintro ⟨e, h1, h2⟩
  rw [List.getElem?_map, List.getElem?_eq_getElem h] at h1
  simp only [Option.map_some, Option.some.injEq] at h1
  subst h1; exact h2
 ·intro h2; exact qu0 h h2
@[simp] theorem take_map_len {α β : Type} {f : α -> β} {l : List α} : (l.map f).take l.length = l.map f := List.take_of_length_le (by simp)
@[simp] theorem take_map_app {α β : Type} {f : α -> β} {l : List α} {y : β} : (l.map f ++ [y]).take (l.length + 1) = l.map f ++ [y] := List.take_of_length_le (by simp)
@[simp] theorem take_map_set {α β : Type} {f : α -> β} {l : List α} {y : β} {k : Nat} : ((l.map f).set k y).take l.length = (l.map f).set k y := List.take_of_length_le (by simp)
@[simp] theorem take_self2 {α : Type} {l : List α} {i : Nat} : (l.take i).take i = l.take i := by simp [List.take_take]
@[simp] theorem take_snoc {α β : Type} {f : α -> β} {l : List α} {i : Nat} {h : i < l.length} : (l.map f).take i ++ [f (l[i]'h)] = (l.map f).take (i + 1) := by
 have h' : i < (l.map f).length := by simpa using h
 rw [List.take_succ_eq_append_getElem h']; simp
@[simp] theorem toNat_add2 {i : Nat} : ((i : Int) + 2).toNat = i + 2 := by omega
@[simp] theorem tmod_two {n : Nat} : (n : Int).tmod 2 = ((n % 2 : Nat) : Int) := rfl
theorem sp0 {t : Nat} {v : V} {K : V -> Prop} (h : env.lookup t = some v) : aS0 env t K = K v := by
 rw [ek0, h]; simp
@[simp] theorem eqS_dec {a b : ByteArray} : eqS a b = decide (a = b) := _root_.id rfl
theorem leT {a b : Int} (h : a <= b) : (a <= b) = True := eq_true h
theorem leF {a b : Int} (h : b < a) : (a <= b) = False := eq_false (by omega)
theorem ltT {a b : Int} (h : a < b) : (a < b) = True := eq_true h
theorem ltF {a b : Int} (h : b <= a) : (a < b) = False := eq_false (by omega)
theorem leTn {a b : Nat} (h : a <= b) : (a <= b) = True := eq_true h
theorem leFn {a b : Nat} (h : b < a) : (a <= b) = False := eq_false (by omega)
theorem ltTn {a b : Nat} (h : a < b) : (a < b) = True := eq_true h
theorem ltFn {a b : Nat} (h : b <= a) : (a < b) = False := eq_false (by omega)
theorem cl0 {x : Int} (h1 : -9223372036854775808 <= x) (h2 : x < 9223372036854775808) : IntKind.i64.wrap x = x := wrap64 h1 h2
theorem sx : (∀ {α : Type} {f : α -> List V} {l : List α} {k : Nat} {K : List V -> Prop} (h : k < l.length), gr0 (l.map f) k K = K (f (l[k]'h))) /\ (∀ {x : Int}, -9223372036854775808 <= x -> x < 9223372036854775808 -> IntKind.i64.wrap x = x) /\
  (∀ {a b : Int}, a <= b -> (a <= b) = True) /\ (∀ {a b : Int}, b < a -> (a <= b) = False) /\ (∀ {a b : Int}, a < b -> (a < b) = True) /\ (∀ {a b : Int}, b <= a -> (a < b) = False) /\
  (∀ {a b : Nat}, a <= b -> (a <= b) = True) /\ (∀ {a b : Nat}, b < a -> (a <= b) = False) /\ (∀ {a b : Nat}, a < b -> (a < b) = True) /\ (∀ {a b : Nat}, b <= a -> (a < b) = False) :=
 ⟨in0, cl0, leT, leF, ltT, ltF, leTn, leFn, ltTn, ltFn⟩
theorem head_map {α : Type} {f : α -> List V} {l : List α} {sz : Nat} (h : ∀ x, (f x).length = sz) : (l.map f = [] \/ ∃ e, (l.map f)[0]? = some e /\ e.length = sz) = True := by
 apply eq_true
 cases l with
 | nil => exact .inl rfl
 | cons x l => exact .inr ⟨f x, rfl, h x⟩
end Go.Am
end

section
namespace Go.Am
variable {P : Program} {n : Sz} {H : Imm} {μ : Mu} {env : Env} {hp : Hp} {a : Act} {w : World}
def renF (i j : Id) : Id -> Option Id := fun x => if x = i then some j else if x = j then none else some x
def bw0 (i j : Id) : Id -> Id := fun x => if x = j then i else x
theorem Wk.rens {E : Env} {h : Hp} (i j : Id) (hj : j.isL = true) (hij : i ≠ j) (hE : ∀ p ∈ E, aS0 env p.1 fun v => mapK (renF i j) v (· = p.2))
  (hh : ∀ p ∈ h, p.1 ≠ i /\ objK hp (bw0 i j p.1) fun o => n50 (renF i j) o (· = p.2)) : Wk E h env hp := fun n H μ a w hS => by
 let μ' : Mu := fun x => if x = j then μ i else μ x
 have hμ : ∀ x x', renF i j x = some x' -> μ' x' = μ x := by
  intro x x' hx
  unfold renF at hx
  by_cases h1 : x = i
  ·subst h1; rw [if_pos rfl] at hx; injection hx with hx; subst hx; simp [μ']
  ·rw [if_neg h1] at hx
   by_cases h2 : x = j
   ·rw [if_pos h2] at hx; cases hx
   ·rw [if_neg h2] at hx; injection hx with hx; subst hx; simp [μ', h2]
 have hun : ∀ x, x ≠ i -> renF i j (bw0 i j x) = some x := by
  intro x hx
  unfold renF bw0
  by_cases h1 : x = j
  ·subst h1; simp
  ·simp [h1, hx]
 have hob : ∀ x o, h.lookup x = some o -> x ≠ i /\ ∃ o', hp.lookup (bw0 i j x) = some o' /\ o'.aQ0 (renF i j) = some o := by
  intro x o hl
  obtain ⟨h1, h2⟩ := hh (x, o) (b90 hl)
  rw [iI0] at h2
  obtain ⟨o', h3, q, h4, rfl⟩ := h2
  exact ⟨h1, o', h3, h4⟩
 have hW := hS.wd
 refine ⟨μ', ⟨hS.defers, hS.size, fun s v hs => ?_, ⟨fun x o hl => ?_, fun x y ox oy bx by' hx hox hy hoy hbx hby heq => ?_, hW.imm, hW.glo⟩⟩, ⟨⟨Imm.le_refl H, rfl, rfl, rfl, Nat.le_refl _, fun _ _ _ => rfl, fun b hO hb => ?_, fr0⟩, fun k => ?_⟩⟩
 ·have h1 := hE (s, v) (b90 hs)
  rw [ek0] at h1
  obtain ⟨u, h2, q, h3, rfl⟩ := h1
  exact R.aQ0 hμ (hS.env s u h2) h3
 ·obtain ⟨h1, o', h2, h3⟩ := hob x o hl
  exact ObOk.aQ0 hμ (hμ _ _ (hun x h1)) (hW.ob _ o' h2) h3
 ·obtain ⟨h1, o1, h2, h3⟩ := hob x ox hx
  obtain ⟨k1, o2, k2, k3⟩ := hob y oy hy
  have e1 := hμ _ _ (hun x h1)
  have e2 := hμ _ _ (hun y k1)
  have := hW.inj _ _ o1 o2 bx by' h2 (by rw [<- Ob.cu0 h3]; exact hox) k2 (by rw [<- Ob.cu0 k3]; exact hoy) (by rw [<- e1]; exact hbx) (by rw [<- e2]; exact hby) heq
  have r1 := hun x h1
  rw [this, hun y k1] at r1
  injection r1 with r1; exact r1.symm
 ·obtain ⟨x, o, blk, h1, h2, h3, h4⟩ := hO
  obtain ⟨q1, o1, q2, q3⟩ := hob x o h1
  exact ⟨_, o1, blk, q2, by rw [<- Ob.cu0 q3]; exact h2, by rw [<- hμ _ _ (hun x q1)]; exact h3, h4⟩
 ·have : Id.e k ≠ j := by rintro rfl; cases hj
  simp [μ', this]
theorem Wk.rowB {b id : Id} {off ty sz : Nat} {cs : List V} (hb : hp.lookup b = some (.box cs)) (hc : cs[off]? = some .nil) (hno : V.hasL id cs = false) (hbi : b ≠ id) (hi : id.isL = true := by rfl) :
  Wk (Env.cU0 [id] env) ((id, .row ty sz true []) :: Hp.set b (.box (cs.set off (.arr id 0 0))) (Hp.cU0 [id] hp)) env hp := fun n H μ a w hS => by
 obtain ⟨s1, x1⟩ := hS.clean [id] (by simp [hi])
 have hn : Mu.cut [id] μ id = none := Mu.cut_in (by simp)
 have hb' : (Hp.cU0 [id] hp).lookup b = some (.box cs) := by
  rw [hO0, hb]; simp [hbi, Ob.has, hno]
 have hcase : ∀ j o, ((id, Ob.row ty sz true []) :: Hp.set b (.box (cs.set off (.arr id 0 0))) (Hp.cU0 [id] hp)).lookup j = some o ->
   (j = id /\ o = .row ty sz true []) \/ (j ≠ id /\ j = b /\ o = .box (cs.set off (.arr id 0 0))) \/ (j ≠ id /\ j ≠ b /\ (Hp.cU0 [id] hp).lookup j = some o) := by
  intro j o h
  rw [List.lookup_cons] at h
  cases e : (j == id) with
  | true => rw [e] at h; injection h with h; exact .inl ⟨eq_of_beq e, h.symm⟩
  | false =>
   rw [e] at h
   have hne : j ≠ id := by simpa using e
   rw [bH0] at h
   by_cases hjb : j = b
   ·subst hjb
    rw [hb'] at h
    simp at h
    exact .inr (.inl ⟨hne, rfl, h.symm⟩)
   ·cases hl : (Hp.cU0 [id] hp).lookup j with
    | none => rw [hl] at h; cases h
    | some q => rw [hl] at h; simp [hjb] at h; subst h; exact .inr (.inr ⟨hne, hjb, rfl⟩)
 have hW := s1.wd
 have hbox : ObOk H (Mu.cut [id] μ) w b (.box (cs.set off (.arr id 0 0))) := by
  obtain ⟨blk, vals, ty, h1, h2, h3, h4, h5⟩ := hW.ob b _ hb'
  refine ⟨blk, vals, ty, h1, h2, by simpa using h3, h4, fun j v hj => ?_⟩
  rw [List.getElem?_set] at hj
  split at hj
  ·rename_i e; subst e
   split at hj
   ·injection hj with hj; subst hj
    obtain ⟨x, q1, q2⟩ := h5 off .nil hc
    refine ⟨x, q1, ?_⟩
    cases q2
    exact .arr _ _ _ _ _ (Nat.le_refl _) (.inl rfl)
   ·cases hj
  ·exact h5 j v hj
 have hown : ∀ j o blk, ((id, Ob.row ty sz true []) :: Hp.set b (.box (cs.set off (.arr id 0 0))) (Hp.cU0 [id] hp)).lookup j = some o -> o.own = true -> Mu.cut [id] μ j = some blk -> ∃ o', (Hp.cU0 [id] hp).lookup j = some o' /\ o'.own = true := by
  intro j o blk h1 h2 h3
  rcases hcase j o h1 with ⟨rfl, rfl⟩ | ⟨_, rfl, rfl⟩ | ⟨_, _, h⟩
  ·rw [hn] at h3; cases h3
  ·exact ⟨_, hb', rfl⟩
  ·exact ⟨o, h, h2⟩
 refine ⟨Mu.cut [id] μ, ⟨s1.defers, s1.size, s1.env, ⟨fun j o h => ?_, fun j k oj ok bj bk hj hoj hk hok hbj hbk heq => ?_, hW.imm, hW.glo⟩⟩, x1.trans ⟨⟨Imm.le_refl H, rfl, rfl, rfl, Nat.le_refl _, fun _ _ _ => rfl, fun c hO hc' => ?_, fr0⟩, fun _ => rfl⟩⟩
 ·rcases hcase j o h with ⟨rfl, rfl⟩ | ⟨_, rfl, rfl⟩ | ⟨_, _, h⟩
  ·exact .inl ⟨rfl, hn⟩
  ·exact hbox
  ·exact hW.ob j o h
 ·obtain ⟨o1, p1, p2⟩ := hown j oj bj hj hoj hbj
  obtain ⟨o2, p3, p4⟩ := hown k ok bk hk hok hbk
  exact hW.inj j k o1 o2 bj bk p1 p2 p3 p4 hbj hbk heq
 ·obtain ⟨j, o, blk, h1, h2, h3, h4⟩ := hO
  obtain ⟨o1, p1, p2⟩ := hown j o blk h1 h2 h3
  exact ⟨j, o1, blk, p1, p2, h3, h4⟩
end Go.Am
end

section
namespace Go.Am
inductive Val where
 | mk (kind num : Int) (text : ByteArray) (list : List Val)
 deriving Inhabited
def Val.kind : Val -> Int | .mk k _ _ _ => k
def Val.num : Val -> Int | .mk _ n _ _ => n
def Val.text : Val -> ByteArray | .mk _ _ t _ => t
def Val.list : Val -> List Val | .mk _ _ _ l => l
def Val.cells : Val -> List V
 | .mk k n t l => [.c (.int .i64 k), .c (.int .i64 n), .c (.string t), .lst (l.attach.map fun x => x.1.cells)]
termination_by v => v
decreasing_by
 have := List.sizeOf_lt_of_mem x.2
 simp only [Val.mk.sizeOf_spec]; omega
theorem Val.au0 (v : Val) : v.cells = [.c (.int .i64 v.kind), .c (.int .i64 v.num), .c (.string v.text), .lst (v.list.map Val.cells)] := by
 obtain ⟨k, n, t, l⟩ := v
 rw [Val.cells]; simp [Val.kind, Val.num, Val.text, Val.list]
theorem Val.flat (x : Val) : qy0 x.cells = true := by rw [Val.au0]; rfl
@[simp] theorem Val.dx0 (x : Val) : x.cells.length = 4 := by rw [Val.au0]; rfl
section
variable {x : Val} {K : V -> Prop} {Ks : List V -> Prop} {hp : Hp}
@[simp] theorem Val.nth0 : nthK x.cells 0 K = K (.c (.int .i64 x.kind)) := by rw [Val.au0]; simp
@[simp] theorem Val.nth1 : nthK x.cells 1 K = K (.c (.int .i64 x.num)) := by rw [Val.au0]; simp
@[simp] theorem Val.nth2 : nthK x.cells 2 K = K (.c (.string x.text)) := by rw [Val.au0]; simp
@[simp] theorem Val.nth3 : nthK x.cells 3 K = K (.lst (x.list.map Val.cells)) := by rw [Val.au0]; simp
@[simp] theorem Val.take1 : x.cells.take 1 = [.c (.int .i64 x.kind)] := by rw [Val.au0]; rfl
@[simp] theorem Val.drop1 : x.cells.drop 1 = [.c (.int .i64 x.num), .c (.string x.text), .lst (x.list.map Val.cells)] := by rw [Val.au0]; rfl
@[simp] theorem Val.take2 : x.cells.take 2 = [.c (.int .i64 x.kind), .c (.int .i64 x.num)] := by rw [Val.au0]; rfl
@[simp] theorem Val.drop2 : x.cells.drop 2 = [.c (.string x.text), .lst (x.list.map Val.cells)] := by rw [Val.au0]; rfl
@[simp] theorem Val.take3 : x.cells.take 3 = [.c (.int .i64 x.kind), .c (.int .i64 x.num), .c (.string x.text)] := by rw [Val.au0]; rfl
@[simp] theorem Val.drop3 : x.cells.drop 3 = [.lst (x.list.map Val.cells)] := by rw [Val.au0]; rfl
@[simp] theorem Val.take4 : x.cells.take 4 = x.cells := List.take_of_length_le (by simp)
@[simp] theorem Val.drop4 : x.cells.drop 4 = [] := by rw [Val.au0]; rfl
@[simp] theorem Val.has0 {i : Id} : V.hasL i x.cells = false := mo0 x.flat i
@[simp] theorem Val.hasS0 {ss : List Nat} : V.hM0 ss x.cells = false := mX0 x.flat ss
@[simp] theorem Val.kill0 {i : Id} : x.cells.map (V.kill i) = x.cells := mZ0 x.flat i
@[simp] theorem Val.jd0 : scalars x.cells = true := iz0 x.flat
@[simp] theorem Val.pure0 : V.bD0 x.cells = true := iy0 x.flat
@[simp] theorem Val.view0 : V.dS0 hp x.cells Ks = Ks x.cells := kx0 x.flat Ks
@[simp] theorem Val.see0 {nl : Bool} {ks : List Id} : V.seeL nl ks hp x.cells Ks = Ks x.cells := pj0 x.flat nl ks Ks
@[simp] theorem Val.map0 {f : Id -> Option Id} : fp0 f x.cells Ks = Ks x.cells := pi0 x.flat f Ks
@[simp] theorem Val.hide0 {ks : List Id} : V.cA0 ks x.cells = x.cells := mY0 x.flat ks
end
@[simp] theorem Val.sb0 (x : Val) : (x.cells = []) = False := by rw [Val.au0]; simp
@[simp ↓] theorem Val.head {l : List Val} : (l.map Val.cells = [] \/ ∃ e, (l.map Val.cells)[0]? = some e /\ e.length = 4) = True := head_map fun x => x.dx0
@[simp] theorem Val.fold {k n : Int} {t : ByteArray} {l : List Val} : ([.c (.int .i64 k), .c (.int .i64 n), .c (.string t), .lst (l.map Val.cells)] : List V) = (Val.mk k n t l).cells := (Val.au0 (Val.mk k n t l)).symm
@[simp] theorem Val.fold0 {k n : Int} {t : ByteArray} : ([.c (.int .i64 k), .c (.int .i64 n), .c (.string t), .lst []] : List V) = (Val.mk k n t []).cells := (Val.au0 (Val.mk k n t [])).symm
@[simp] theorem Val.kind_mk {k n t l} : (Val.mk k n t l).kind = k := rfl
@[simp] theorem Val.num_mk {k n t l} : (Val.mk k n t l).num = n := rfl
@[simp] theorem Val.text_mk {k n t l} : (Val.mk k n t l).text = t := rfl
@[simp] theorem Val.ed0 {k n t l} : (Val.mk k n t l).list = l := rfl
@[simp] theorem Val.fold_app {k n : Int} {t : ByteArray} {l : List Val} {x : Val} : ([.c (.int .i64 k), .c (.int .i64 n), .c (.string t), .lst (l.map Val.cells ++ [x.cells])] : List V) = (Val.mk k n t (l ++ [x])).cells := by
 rw [Val.au0 (Val.mk k n t (l ++ [x]))]; simp only [Val.kind_mk, Val.num_mk, Val.text_mk, Val.ed0, List.map_append, List.map_cons, List.map_nil]
@[simp] theorem Val.fold_set {k n : Int} {t : ByteArray} {l : List Val} {x : Val} {i : Nat} : ([.c (.int .i64 k), .c (.int .i64 n), .c (.string t), .lst ((l.map Val.cells).set i x.cells)] : List V) = (Val.mk k n t (l.set i x)).cells := by
 rw [Val.au0 (Val.mk k n t (l.set i x))]; simp only [Val.kind_mk, Val.num_mk, Val.text_mk, Val.ed0, List.map_set]
@[simp] theorem Val.eta (v : Val) : Val.mk v.kind v.num v.text v.list = v := by cases v; rfl
abbrev Val.V (v : Val) : V := .agg v.cells
abbrev ay0 (l : List Val) : V := .lst (l.map Val.cells)
theorem Val.sz_lt {v : Val} {x : Val} (h : x ∈ v.list) : SizeOf.sizeOf x < SizeOf.sizeOf v := by
 obtain ⟨k, n, t, l⟩ := v
 have := List.sizeOf_lt_of_mem h
 simp only [Val.list] at this
 simp only [Val.mk.sizeOf_spec]; omega
theorem Val.induct {p : Val -> Prop} (h : ∀ v : Val, (∀ x ∈ v.list, p x) -> p v) (v : Val) : p v := by
 have : ∀ n (v : Val), SizeOf.sizeOf v <= n -> p v := by
  intro n
  induction n with
  | zero => intro v hv; obtain ⟨k, n, t, l⟩ := v; simp only [Val.mk.sizeOf_spec] at hv; omega
  | succ n ih => intro v hv; exact h v fun x hx => ih x (by have := Val.sz_lt hx; omega)
 exact this _ v (Nat.le_refl _)
mutual
def Val.wt : Val -> Nat
 | .mk _ _ t l => 1 + t.size + Val.wtL l
def Val.wtL : List Val -> Nat
 | [] => 0
 | v :: vs => v.wt + Val.wtL vs
end
theorem Val.cB0 (v : Val) : v.wt = 1 + v.text.size + Val.wtL v.list := by
 obtain ⟨k, n, t, l⟩ := v; simp [Val.wt, Val.text, Val.list]
theorem Val.qd0 : ∀ (l : List Val) (i : Nat) (h : i < l.length), Val.wtL (l.take (i + 1)) = Val.wtL (l.take i) + (l[i]).wt
 | v :: l, 0, h => by simp [Val.wtL]
 | v :: l, i + 1, h => by
  have := Val.qd0 l i (by simpa using h)
  simp [Val.wtL, this]; omega
theorem Val.wtL_le : ∀ (l : List Val) (i : Nat), Val.wtL (l.take i) <= Val.wtL l
 | [], i => by simp [Val.wtL]
 | v :: l, 0 => by simp [Val.wtL]
 | v :: l, i + 1 => by have := Val.wtL_le l i; simp [Val.wtL]; omega
theorem Val.aR0 : ∀ {l : List Val} {x : Val}, x ∈ l -> x.wt <= Val.wtL l
 | v :: l, x, h => by
  rcases List.mem_cons.1 h with rfl | h
  ·simp [Val.wtL]
  ·have := Val.aR0 h; simp [Val.wtL]; omega
theorem Val.be0 : ∀ (l : List Val), l.length <= Val.wtL l
 | [] => by simp [Val.wtL]
 | v :: l => by have := Val.be0 l; have := v.cB0; simp [Val.wtL]; omega
theorem Val.sK0 {v : Val} {b i : Nat} {h : i < v.list.length} (hv : v.wt < b) : v.list[i].wt < b := by
 have := v.cB0; have := Val.aR0 (List.getElem_mem h); omega
theorem Val.gw0 (v : Val) (h : v.wt < 2 ^ 40) : v.list.length < 2 ^ 40 /\ v.text.size < 2 ^ 40 := by
 have := v.cB0; have := Val.be0 v.list; omega
end Go.Am
end

section
namespace Go.Am
variable {P : Program} {n : Nat} {env : Env} {hp : Hp}
theorem J_ext {f : FuncId} {fn : Func} {e : Array Value -> Sem Value} {args : List V} {v : V} {vs : Array Value} {x : Value} (hf : P.funcs[f]? = some fn) (hn : (fn.name == "runtime.NumGoroutine") = false) (hb : fn.body.isNone = true) (h1 : (Extern.findNext fn).isNone = true)
  (h2 : Extern.find fn = some e) (hargs : ∀ H μ us, RL H μ args us -> us = vs) (he : ∀ w, (e vs).run P w = .ok x w) (hx : ∀ H μ, R H μ v x) : Ret P f args v := by
 intro H μ us w h3 h4
 have := hargs H μ us h3
 subst this
 have hn' : ¬ fn.name = "runtime.NumGoroutine" := by simpa using hn
 have h1' : Extern.findNext fn = none := by simpa using h1
 have hb' : fn.body = none := by simpa using hb
 have hrun : (callFunc f us).run P w = .ok (.value x) w := by
  simp [callFunc, hf, hn', hb', h1', h2, he, mark]
  rfl
 unfold e00
 rw [hrun]
 exact ⟨_, H, μ, rfl, ⟨x, rfl, hx H μ⟩, (Nx.refl H μ (hpE 0 []) w).toNj, h4, Nat.le_refl _, fun j o hj => by simp at hj⟩
theorem RL.two {H : Imm} {μ : Mu} {x y : Value} {us : Array Value} (h : RL H μ [.c x, .c y] us) : us = #[x, y] := by
 have h0 := (h.2 0 _ rfl).cm0
 have h1 := (h.2 1 _ rfl).cm0
 have hs := h.1
 simp at hs
 apply Array.ext
 ·simp [hs]
 ·intro i h2 h3
  have : i = 0 \/ i = 1 := by simp at h3; omega
  rcases this with rfl | rfl
  ·simpa [Array.getD, h2] using h0
  ·simpa [Array.getD, h2] using h1
end Go.Am
end

section
namespace Go.Am
attribute [local irreducible] vc vcIs vcI vcOp vcD vcDp vcDR vcT vcAR bp0 aK0 panD neG ne pv J bm0 bl0 bt0 aS0 evK evsK nthK objK boxK rowK bg0 intK strK aggK fnK ifcK aw0 at0 ldK ldaK iaK srcK stK appK appD bv0 pvK br0 aF0 bk0
abbrev vI (n : Int) : V := .c (.int .i64 n)
abbrev vB (b : Bool) : V := .c (.bool b)
abbrev vS (s : ByteArray) : V := .c (.string s)
abbrev noS : ByteArray := { data := { toList := [] } }
def Val.int (n : Int) : Val := .mk 1 n noS []
def Val.bool (b : Bool) : Val := .mk 2 (if b then 1 else 0) noS []
def Val.str (s : ByteArray) : Val := .mk 3 0 s []
def Val.zero : Val := .mk 0 0 noS []
theorem cy0 (n : Int) : Ret prog mQ0 [vI n] (Val.int n).V := by
 refine af0 qD0 (by simp) ?_
 simp +contextual (maxSteps := 2000000) (disch := omega) [-Int.not_lt, -Int.not_le, -Nat.not_lt, -Nat.not_le, sx, lS0, Val.int]
theorem ck0 (b : Bool) : Ret prog l20 [vB b] (Val.bool b).V := by
 refine af0 pn0 (by simp) ?_
 simp +contextual (maxSteps := 2000000) (disch := omega) [-Int.not_lt, -Int.not_le, -Nat.not_lt, -Nat.not_le, sx, kh0, Val.bool]
theorem iW0 (s : ByteArray) : Ret prog l40 [vS s] (Val.str s).V := by
 refine af0 pq0 (by simp) ?_
 simp +contextual (maxSteps := 2000000) (disch := omega) [-Int.not_lt, -Int.not_le, -Nat.not_lt, -Nat.not_le, sx, kk0, Val.str]
def Val.len (v : Val) : Int × Int :=
 if v.kind = 3 then (v.text.size, 0) else if v.kind = 4 then (v.list.length, 0) else if v.kind = 5 then ((v.list.length / 2 : Nat), 0) else (0, 40)
theorem jN0 (v : Val) (hv : v.wt < 2 ^ 40) : Ret prog hF0 [v.V] (.tup [vI v.len.1, vI v.len.2]) := by
 have hs := v.gw0 hv
 refine af0 qE0 (by simp) ?_
 simp +contextual (maxSteps := 2000000) (disch := omega) [-Int.not_lt, -Int.not_le, -Nat.not_lt, -Nat.not_le, sx, lT0, Val.len]
theorem ej0 (v : Val) : v.wt < 2 ^ 62 -> Ret prog jw0 [v.V] (vI v.wt) := by
 induction v using Val.induct with
 | h v ih =>
 intro h
 have hw := v.cB0
 have hlen := Val.be0 v.list
 refine af0 m40 (by simp) ?_
 simp +contextual (maxSteps := 2000000) (disch := omega) [-Int.not_lt, -Int.not_le, -Nat.not_lt, -Nat.not_le, sx, ii0]
 refine aA0 v.list.length
  (fun i => [(13, vI i), (12, vI v.list.length), (11, ay0 v.list), (3, vI ((1 + v.text.size + Val.wtL (v.list.take i) : Nat) : Int)), (2, vI 0), (1, .bp (.l 1 0) 0)])
  (fun _ => [(.l 1 0, .box v.cells)]) (Wk.subs (by simp [Val.wtL]) (by simp)) ?_
 intro i hi
 simp +contextual (maxSteps := 2000000) (disch := omega) [-Int.not_lt, -Int.not_le, -Nat.not_lt, -Nat.not_le, sx]
 refine ⟨fun hlt => ?_, fun hge => ?_⟩
 ·have hx := ih _ (List.getElem_mem hlt)
  have hxw := Val.aR0 (List.getElem_mem hlt)
  have htk := Val.qd0 v.list i hlt
  have hle := Val.wtL_le v.list (i + 1)
  refine if0 (hx (by omega)) rfl rfl (by simp) (by simp) (by simp) ?_
  simp +contextual (maxSteps := 2000000) (disch := omega) [-Int.not_lt, -Int.not_le, -Nat.not_lt, -Nat.not_le, sx]
  refine .of hlt (Wk.subs (by simp; omega) (by simp))
 ·rw [List.take_of_length_le (by omega)]; omega
theorem lI0 (l : List Val) (hl : l.length < 2 ^ 40) : J prog bd0 [ay0 l] [] (· = .ret (.arr (.e 0) 0 l.length) [.row ac0 4 true (l.map Val.cells)]) := by
 refine az0 bP0 (by simp) ?_
 simp +contextual (maxSteps := 2000000) (disch := omega) [-Int.not_lt, -Int.not_le, -Nat.not_lt, -Nat.not_le, sx, a50]
 refine ⟨?_, fun hnil => ?_⟩
 ·refine endR _ _ (Wk.refl _ _) [.l 7 0] (by simp) ?_
  simp
 ·subst hnil
  refine endR _ _ (Wk.row (s := 2) (id := .l 7 0) (ty := ac0) (sz := 4) rfl) [.l 7 0] (by simp) ?_
  simp
theorem iU0 (v : Val) : v.wt < 2 ^ 40 -> Ret prog eo0 [v.V] v.V /\
  J prog eo0 [v.V] [] (· = .ret (.agg [vI v.kind, vI v.num, vS v.text, .arr (.e 0) 0 v.list.length]) [.row ac0 4 true (v.list.map Val.cells)]) := by
 induction v using Val.induct with
 | h v ih =>
 intro h
 have hw := v.cB0
 have hlen := Val.be0 v.list
 have body : ∀ Q : Qs, (∀ env', env'.lookup 2 = some (.bp (.l 2 0) 0) -> Q .ret env'
   [(.l 6 0, .row ac0 4 true (v.list.map Val.cells)), (.l 1 0, .box [vI v.kind, vI v.num, vS v.text, .arr (.l 6 0) 0 v.list.length]), (.l 2 0, .box [vI v.kind, vI v.num, vS v.text, .arr (.l 6 0) 0 v.list.length])]) ->
   vc prog hd0 (ci0 0 [v.V]) [] Q := by
  intro Q hQ
  simp +contextual (maxSteps := 2000000) (disch := omega) [-Int.not_lt, -Int.not_le, -Nat.not_lt, -Nat.not_le, sx, hd0]
  refine ad0 [] rfl rfl (by simp) ?_
  simp
  refine ae0 6 (lI0 v.list (by omega)) (by simp) ?_
  simp +contextual (maxSteps := 2000000) (disch := omega) [-Int.not_lt, -Int.not_le, -Nat.not_lt, -Nat.not_le, sx]
  refine aA0 v.list.length
   (fun i => [(11, vI i), (10, vI v.list.length), (2, .bp (.l 2 0) 0), (1, .bp (.l 1 0) 0)])
   (fun _ => [(.l 6 0, .row ac0 4 true (v.list.map Val.cells)), (.l 1 0, .box [vI v.kind, vI v.num, vS v.text, .arr (.l 6 0) 0 v.list.length]), (.l 2 0, .box [vI 0, vI 0, vS noS, .nil])]) (Wk.subs (by simp) (by simp)) ?_
  intro i hi
  simp +contextual (maxSteps := 2000000) (disch := omega) [-Int.not_lt, -Int.not_le, -Nat.not_lt, -Nat.not_le, sx]
  refine ⟨fun hlt => ?_, fun hge => ?_⟩
  ·have hx := ih _ (List.getElem_mem hlt)
   have hxw := Val.aR0 (List.getElem_mem hlt)
   refine qk0 (hx (by omega)).1 rfl rfl (by simp) (by simp) (by simp) ?_
   simp +contextual (maxSteps := 2000000) (disch := omega) [-Int.not_lt, -Int.not_le, -Nat.not_lt, -Nat.not_le, sx, hlt]
   refine .of hlt (Wk.subs (by simp) (by simp))
  ·exact hQ _ rfl
 refine ⟨?_, ?_⟩
 ·refine af0 kK0 (by simp) (body _ fun env' h2 => ?_)
  simp +contextual (maxSteps := 2000000) (disch := omega) [-Int.not_lt, -Int.not_le, -Nat.not_lt, -Nat.not_le, sx, sp0 h2]
 ·refine az0 kK0 (by simp) (body _ fun env' h2 => ?_)
  refine endR _ _ (Wk.refl _ _) [.l 6 0] (by simp) ?_
  simp +contextual (maxSteps := 2000000) (disch := omega) [-Int.not_lt, -Int.not_le, -Nat.not_lt, -Nat.not_le, sx, sp0 h2]
theorem aW0 (v : Val) (h : v.wt < 2 ^ 40) : Ret prog eo0 [v.V] v.V := (iU0 v h).1
theorem gx0 (v : Val) (h : v.wt < 2 ^ 40) : J prog eo0 [v.V] [] (· = .ret (.agg [vI v.kind, vI v.num, vS v.text, .arr (.e 0) 0 v.list.length]) [.row ac0 4 true (v.list.map Val.cells)]) := (iU0 v h).2
theorem jt0 (a : Int) : Ret prog io0 [vI a] (vB false) := by
 refine af0 mg0 (by simp) ?_
 simp +contextual (maxSteps := 2000000) (disch := omega) [-Int.not_lt, -Int.not_le, -Nat.not_lt, -Nat.not_le, sx, h00]
def cmpI (a b : Int) : Int := if a < b then -1 else if a > b then 1 else 0
theorem eN0 (a b : Int) : Ret prog gK0 [vI a, vI b] (vI (cmpI a b)) := by
 refine af0 ky0 (by simp) ?_
 simp +contextual (maxSteps := 2000000) (disch := omega) [-Int.not_lt, -Int.not_le, -Nat.not_lt, -Nat.not_le, sx, fE0]
 refine ab0 ?_; simp; refine aa0 (jt0 a) (by simp) ?_
 simp +contextual (maxSteps := 2000000) (disch := omega) [-Int.not_lt, -Int.not_le, -Nat.not_lt, -Nat.not_le, sx]
 refine ab0 ?_; simp; refine aa0 (jt0 b) (by simp) ?_
 simp +contextual (maxSteps := 2000000) (disch := omega) [-Int.not_lt, -Int.not_le, -Nat.not_lt, -Nat.not_le, sx, cmpI]
theorem nY0 (a b : ByteArray) : Ret prog co0 [vS a, vS b] (vI (Lib.compareBytes a.data.toList b.data.toList)) :=
 J_ext (fn := Go.Proofs.Tryz.f134) Go.Proofs.Tryz.func134 (by kernel_rfl) (by kernel_rfl) (by kernel_rfl) (e := Extern.BytealgCompare.compare) (by kernel_rfl) (fun H μ us h => h.two) (fun w => Lib.run_compareString a b w) (fun H μ => .c _)
theorem fB0 (a b : ByteArray) : Ret prog ca0 [vS a, vS b] (vI (Lib.compareBytes a.data.toList b.data.toList)) := by
 refine af0 dK0 (by simp) ?_
 simp +contextual (maxSteps := 2000000) (disch := omega) [-Int.not_lt, -Int.not_le, -Nat.not_lt, -Nat.not_le, sx, bX0]
 refine ab0 ?_; simp; refine aa0 (nY0 a b) (by simp) ?_
 simp +contextual (maxSteps := 2000000) (disch := omega) [-Int.not_lt, -Int.not_le, -Nat.not_lt, -Nat.not_le, sx]
theorem jp0 (a b : ByteArray) : Ret prog gT0 [vS a, vS b] (vI (Lib.compareBytes a.data.toList b.data.toList)) := by
 refine af0 kJ0 (by simp) ?_
 simp +contextual (maxSteps := 2000000) (disch := omega) [-Int.not_lt, -Int.not_le, -Nat.not_lt, -Nat.not_le, sx, fM0]
 refine ab0 ?_; simp; refine aa0 (fB0 a b) (by simp) ?_
 simp +contextual (maxSteps := 2000000) (disch := omega) [-Int.not_lt, -Int.not_le, -Nat.not_lt, -Nat.not_le, sx]
def orI : List Int -> Int
 | [] => 0
 | x :: xs => if x ≠ 0 then x else orI xs
theorem rq0 (xs : List Int) (hl : xs.length < 2 ^ 40) : Ret prog lZ0 [.lst (xs.map fun i => [vI i])] (vI (orI xs)) := by
 refine af0 pk0 (by simp) ?_
 simp +contextual (maxSteps := 2000000) (disch := omega) [-Int.not_lt, -Int.not_le, -Nat.not_lt, -Nat.not_le, sx, kf0]
 refine ap0 (fun i : Nat => xs.length - i) (fun i => [(8, vI i), (7, vI xs.length), (6, .lst (xs.map fun i => [vI i])), (3, vI 0), (2, vI 0)]) (fun _ => [])
  (fun i => i <= xs.length /\ orI xs = orI (xs.drop i)) 0 (by simp) (Wk.subs (by simp) (by simp)) ?_
 rintro i ⟨hi, ho⟩
 simp +contextual (maxSteps := 2000000) (disch := omega) [-Int.not_lt, -Int.not_le, -Nat.not_lt, -Nat.not_le, sx]
 refine ⟨fun hlt => ⟨fun hne => ?_, fun he => ?_⟩, fun hge => ?_⟩
 ·have hd : xs.drop i = xs[i] :: xs.drop (i + 1) := List.drop_eq_getElem_cons hlt
  rw [ho, hd, orI, if_pos hne]
 ·have hd : xs.drop i = xs[i] :: xs.drop (i + 1) := List.drop_eq_getElem_cons hlt
  rw [hd, orI, if_neg (by simpa using he)] at ho
  exact .of (i + 1) ⟨hlt, ho⟩ (by omega) (Wk.subs (by simp) (by simp))
 ·rw [ho, List.drop_eq_nil_of_le (by omega)]; rfl
def b70 (f : Val -> Val -> Int) : List Val -> List Val -> Int
 | [], [] => 0
 | [], _ :: _ => -1
 | _ :: _, [] => 1
 | x :: xs, y :: ys => if f x y ≠ 0 then f x y else b70 f xs ys
theorem md0 (f : Val -> Val -> Int) (g : Nat) (l1 l2 : List Val) (h1 : l1.length < 2 ^ 40) (h2 : l2.length < 2 ^ 40) (hf : ∀ x ∈ l1, ∀ y ∈ l2, Ret prog g [x.V, y.V] (vI (f x y))) :
  Ret prog aJ0 [ay0 l1, ay0 l2, .fn g []] (vI (b70 f l1 l2)) := by
 refine af0 bs0 (by simp) ?_
 simp +contextual (maxSteps := 2000000) (disch := omega) [-Int.not_lt, -Int.not_le, -Nat.not_lt, -Nat.not_le, sx, aG0]
 refine ap0 (fun i : Nat => l1.length - i) (fun i => [(13, vI i), (12, vI l1.length), (11, ay0 l1), (0, ay0 l1), (1, ay0 l2), (2, .fn g []), (6, vI 0)]) (fun _ => [])
  (fun i => i <= l1.length /\ i <= l2.length /\ b70 f l1 l2 = b70 f (l1.drop i) (l2.drop i)) 0 (by simp) (Wk.subs (by simp) (by simp)) ?_
 rintro i ⟨hi1, hi2, ho⟩
 simp +contextual (maxSteps := 2000000) (disch := omega) [-Int.not_lt, -Int.not_le, -Nat.not_lt, -Nat.not_le, sx]
 refine ⟨fun hlt => ⟨fun hle => ?_, fun hlt2 => ?_⟩, fun hge => ⟨fun hlt => ?_, fun hle => ?_⟩⟩
 ·have hd : l1.drop i = l1[i] :: l1.drop (i + 1) := List.drop_eq_getElem_cons hlt
  rw [ho, hd, List.drop_eq_nil_of_le hle]; rfl
 ·have hlt2 : i < l2.length := by omega
  have hd : l1.drop i = l1[i] :: l1.drop (i + 1) := List.drop_eq_getElem_cons hlt
  have hd2 : l2.drop i = l2[i] :: l2.drop (i + 1) := List.drop_eq_getElem_cons hlt2
  rw [hd, hd2, b70] at ho
  refine ab0 ?_; simp; refine aa0 (hf _ (List.getElem_mem hlt) _ (List.getElem_mem hlt2)) (by simp) ?_
  simp +contextual (maxSteps := 2000000) (disch := omega) [-Int.not_lt, -Int.not_le, -Nat.not_lt, -Nat.not_le, sx]
  refine ⟨fun hne => ?_, fun he => ?_⟩
  ·rw [if_pos hne] at ho; exact ho.symm
  ·rw [if_neg (by simpa using he)] at ho
   exact .of (i + 1) ⟨hlt, hlt2, ho⟩ (by omega) (Wk.subs (by simp) (by simp))
 ·have hi : i = l1.length := by omega
  subst hi
  rw [List.drop_length] at ho
  have hd2 : l2.drop l1.length = l2[l1.length] :: l2.drop (l1.length + 1) := List.drop_eq_getElem_cons hlt
  rw [ho, hd2]; rfl
 ·have hi : i = l1.length := by omega
  subst hi
  rw [List.drop_length] at ho
  rw [ho, List.drop_eq_nil_of_le (by omega)]; rfl
mutual
def Val.cmp : Val -> Val -> Int
 | .mk k n t l, .mk k' n' t' l' => orI [cmpI k k', cmpI n n', Lib.compareBytes t.data.toList t'.data.toList, Val.cmpL l l']
def Val.cmpL : List Val -> List Val -> Int
 | [], [] => 0
 | [], _ :: _ => -1
 | _ :: _, [] => 1
 | x :: xs, y :: ys => if x.cmp y ≠ 0 then x.cmp y else Val.cmpL xs ys
end
theorem Val.cmpL_eq : ∀ l1 l2 : List Val, Val.cmpL l1 l2 = b70 Val.cmp l1 l2
 | [], [] => by rw [Val.cmpL, b70]
 | [], _ :: _ => by rw [Val.cmpL, b70]
 | _ :: _, [] => by rw [Val.cmpL, b70]
 | x :: xs, y :: ys => by rw [Val.cmpL, b70, Val.cmpL_eq xs ys]
theorem Val.cmp_eq (v u : Val) : v.cmp u = orI [cmpI v.kind u.kind, cmpI v.num u.num, Lib.compareBytes v.text.data.toList u.text.data.toList, Val.cmpL v.list u.list] := by
 obtain ⟨k, n, t, l⟩ := v
 obtain ⟨k', n', t', l'⟩ := u
 rw [Val.cmp]; rfl
theorem b60 (v : Val) : ∀ u : Val, v.wt < 2 ^ 40 -> u.wt < 2 ^ 40 -> Ret prog fj0 [v.V, u.V] (vI (v.cmp u)) := by
 induction v using Val.induct with
 | h v ih =>
 intro u hv hu
 have hw := v.cB0
 have hlen := Val.be0 v.list
 have hw' := u.cB0
 have hlen' := Val.be0 u.list
 refine af0 mi0 (by simp) ?_
 simp +contextual (maxSteps := 2000000) (disch := omega) [-Int.not_lt, -Int.not_le, -Nat.not_lt, -Nat.not_le, sx, h20]
 refine al0 ?_; simp; refine aa0 (eN0 v.kind u.kind) (by simp) ?_
 simp +contextual (maxSteps := 2000000) (disch := omega) [-Int.not_lt, -Int.not_le, -Nat.not_lt, -Nat.not_le, sx]
 refine al0 ?_; simp; refine aa0 (eN0 v.num u.num) (by simp) ?_
 simp +contextual (maxSteps := 2000000) (disch := omega) [-Int.not_lt, -Int.not_le, -Nat.not_lt, -Nat.not_le, sx]
 refine al0 ?_; simp; refine aa0 (jp0 v.text u.text) (by simp) ?_
 simp +contextual (maxSteps := 2000000) (disch := omega) [-Int.not_lt, -Int.not_le, -Nat.not_lt, -Nat.not_le, sx]
 refine ab0 ?_; simp; refine aa0 (md0 Val.cmp fj0 v.list u.list (by omega) (by omega) fun x hx y hy => ih x hx y (by have := Val.aR0 hx; omega) (by have := Val.aR0 hy; omega)) (by simp) ?_
 simp +contextual (maxSteps := 2000000) (disch := omega) [-Int.not_lt, -Int.not_le, -Nat.not_lt, -Nat.not_le, sx]
 refine ab0 ?_; simp; refine aa0 (rq0 [cmpI v.kind u.kind, cmpI v.num u.num, Lib.compareBytes v.text.data.toList u.text.data.toList, b70 Val.cmp v.list u.list] (by simp)) (by simp) ?_
 simp +contextual (maxSteps := 2000000) (disch := omega) [-Int.not_lt, -Int.not_le, -Nat.not_lt, -Nat.not_le, sx, Val.cmp_eq v u, Val.cmpL_eq]
def aD0 (k : Val) : List Val -> Nat -> Nat × Bool
 | x :: y :: l, i => if x.cmp k >= 0 then (i, x.cmp k == 0) else aD0 k l (i + 2)
 | [_], i => (i + 1, false)
 | [], i => (i, false)
theorem dJ0 (k : Val) : ∀ (l : List Val) (i : Nat), (aD0 k l i).1 <= i + l.length /\ ((aD0 k l i).2 = true -> (aD0 k l i).1 + 1 < i + l.length)
 | x :: y :: l, i => by
  unfold aD0
  split
  ·exact ⟨by simp, fun _ => by simp⟩
  ·obtain ⟨h1, h2⟩ := dJ0 k l (i + 2)
   exact ⟨by simp; omega, fun h => by have := h2 h; simp; omega⟩
 | [_], i => by simp [aD0]
 | [], i => by simp [aD0]
theorem dR0 (v k : Val) (hv : v.wt < 2 ^ 40) (hk : k.wt < 2 ^ 40) : Ret prog l50 [v.V, k.V] (.tup [vI (aD0 k v.list 0).1, vB (aD0 k v.list 0).2]) := by
 have hs := v.gw0 hv
 have hw := v.cB0
 refine af0 pr0 (by simp) ?_
 simp +contextual (maxSteps := 2000000) (disch := omega) [-Int.not_lt, -Int.not_le, -Nat.not_lt, -Nat.not_le, sx, kl0]
 refine ap0 (fun i : Nat => v.list.length - i) (fun i => [(6, vI i), (2, .bp (.l 2 0) 0), (3, .bp (.l 3 0) 0)]) (fun _ => [(.l 2 0, .box v.cells), (.l 3 0, .box k.cells)])
  (fun i => i <= v.list.length /\ aD0 k v.list 0 = aD0 k (v.list.drop i) i) 0 (by simp) (Wk.subs (by simp) (by simp)) ?_
 rintro i ⟨hi, ho⟩
 simp +contextual (maxSteps := 2000000) (disch := omega) [-Int.not_lt, -Int.not_le, -Nat.not_lt, -Nat.not_le, sx]
 refine ⟨fun hlt => ?_, fun hge => ?_⟩
 ·have hlt : i + 1 < v.list.length := by omega
  have hd : v.list.drop i = v.list[i] :: v.list[i + 1] :: v.list.drop (i + 2) := by
   rw [List.drop_eq_getElem_cons (by omega), List.drop_eq_getElem_cons hlt]
  rw [hd, aD0] at ho
  have hx := Val.aR0 (List.getElem_mem (show i < v.list.length by omega))
  refine ab0 ?_; simp; refine aa0 (b60 v.list[i] k (by omega) hk) (by simp) ?_
  simp +contextual (maxSteps := 2000000) (disch := omega) [-Int.not_lt, -Int.not_le, -Nat.not_lt, -Nat.not_le, sx]
  refine ⟨fun hge => ?_, fun hl => ?_⟩
  ·rw [ho, if_pos hge]; simp
  ·rw [if_neg (by omega)] at ho
   exact .of (i + 2) ⟨by omega, ho⟩ (by omega) (Wk.subs (by simp) (by simp))
 ·rw [ho]
  have : (v.list.drop i).length <= 1 := by simp; omega
  match hm : v.list.drop i with
  | [] => simp [aD0]; have := congrArg List.length hm; simp at this; omega
  | [x] => simp [aD0]; have := congrArg List.length hm; simp at this; omega
  | x :: y :: l => rw [hm] at this; simp at this
set_option maxRecDepth 100000
def Val.has (v k : Val) : Bool × Int := if v.kind = 5 then ((aD0 k v.list 0).2, 0) else (false, 40)
theorem jM0 (v k : Val) (hv : v.wt < 2 ^ 40) (hk : k.wt < 2 ^ 40) : Ret prog hE0 [v.V, k.V] (.tup [vB (v.has k).1, vI (v.has k).2]) := by
 refine af0 qC0 (by simp) ?_
 simp +contextual (maxSteps := 2000000) (disch := omega) [-Int.not_lt, -Int.not_le, -Nat.not_lt, -Nat.not_le, sx, lR0, Val.has]
 intro h
 refine ab0 ?_; simp; refine aa0 (dR0 v k hv hk) (by simp) ?_
 simp +contextual (maxSteps := 2000000) (disch := omega) [-Int.not_lt, -Int.not_le, -Nat.not_lt, -Nat.not_le, sx]
def Val.at (v k : Val) : Val × Int :=
 if v.kind = 4 /\ k.kind = 1 then (if k.num < 0 \/ (v.list.length : Int) <= k.num then (Val.zero, 52) else (v.list.getD k.num.toNat Val.zero, 0))
 else if v.kind = 5 then (if (aD0 k v.list 0).2 then (v.list.getD ((aD0 k v.list 0).1 + 1) Val.zero, 0) else (Val.zero, 52)) else (Val.zero, 40)
theorem k90 (v k : Val) (hv : v.wt < 2 ^ 40) (hk : k.wt < 2 ^ 40) : Ret prog iY0 [v.V, k.V] (.tup [(v.at k).1.V, vI (v.at k).2]) := by
 have hs := v.gw0 hv
 have hw := v.cB0
 refine af0 rv0 (by simp) ?_
 simp +contextual (maxSteps := 2000000) (disch := omega) [-Int.not_lt, -Int.not_le, -Nat.not_lt, -Nat.not_le, sx, mC0]
 (repeat' (first | apply And.intro | intro _))
 all_goals first
  | omega
  | (simp [Val.at, Val.zero, *]; done)
  | (refine ab0 ?_; simp; refine aa0 (aW0 _ (Val.sK0 hv)) (by simp) ?_
     simp +contextual (maxSteps := 2000000) (disch := omega) [-Int.not_lt, -Int.not_le, -Nat.not_lt, -Nat.not_le, sx]
     simp [Val.at, *]
     rw [List.getElem?_eq_getElem (by omega)]; rfl)
  | skip
 refine ab0 ?_; simp; refine aa0 (dR0 v k hv hk) (by simp) ?_
 have hf := (dJ0 k v.list 0).2
 cases hb : (aD0 k v.list 0).2 with
 | false => simp +contextual (maxSteps := 2000000) (disch := omega) [-Int.not_lt, -Int.not_le, -Nat.not_lt, -Nat.not_le, sx, hb, Val.at, Val.zero, *]
 | true =>
  have hf := hf hb
  simp +contextual (maxSteps := 2000000) (disch := omega) [-Int.not_lt, -Int.not_le, -Nat.not_lt, -Nat.not_le, sx, hb]
  refine ab0 ?_; simp; refine aa0 (aW0 _ (Val.sK0 hv)) (by simp) ?_
  simp +contextual (maxSteps := 2000000) (disch := omega) [-Int.not_lt, -Int.not_le, -Nat.not_lt, -Nat.not_le, sx, Val.at, *]
def bounded (v : Val) : Val × Int := if (v.wt : Int) > 16384 then (Val.zero, 53) else (v, 0)
theorem cF0 (v : Val) (hv : v.wt < 2 ^ 62) : Ret prog iq0 [v.V] (.tup [(bounded v).1.V, vI (bounded v).2]) := by
 refine af0 mj0 (by simp) ?_
 simp +contextual (maxSteps := 2000000) (disch := omega) [-Int.not_lt, -Int.not_le, -Nat.not_lt, -Nat.not_le, sx, h30]
 refine ab0 ?_; simp; refine aa0 (ej0 v hv) (by simp) ?_
 simp +contextual (maxSteps := 2000000) (disch := omega) [-Int.not_lt, -Int.not_le, -Nat.not_lt, -Nat.not_le, sx]
 (repeat' (first | apply And.intro | intro _))
 all_goals simp [bounded, Val.zero, *]
def Val.push (v x : Val) : Val × Int :=
 if v.kind = 4 then (if (v.list.length : Int) >= 64 then (Val.zero, 53) else bounded (.mk v.kind v.num v.text (v.list ++ [x]))) else (Val.zero, 40)
theorem Val.dp0 (a b : List Val) : Val.wtL (a ++ b) = Val.wtL a + Val.wtL b := by
 induction a with
 | nil => simp [Val.wtL]
 | cons x a ih => simp [Val.wtL, ih]; omega
theorem iV0 (v x : Val) (hv : v.wt < 2 ^ 40) (hx : x.wt < 2 ^ 40) : Ret prog fY0 [v.V, x.V] (.tup [(v.push x).1.V, vI (v.push x).2]) := by
 have hs := v.gw0 hv
 have hw := v.cB0
 have hb : (Val.mk v.kind v.num v.text (v.list ++ [x])).wt < 2 ^ 62 := by
  rw [Val.cB0]; simp [Val.dp0, Val.wtL]; omega
 refine af0 pp0 (by simp) ?_
 simp +contextual (maxSteps := 2000000) (disch := omega) [-Int.not_lt, -Int.not_le, -Nat.not_lt, -Nat.not_le, sx, kj0]
 (repeat' (first | apply And.intro | intro _))
 all_goals first
  | (simp [Val.push, Val.zero, *]; done)
  | skip
 refine ad0 [] rfl rfl (by simp) ?_
 simp
 refine ae0 17 (gx0 v hv) (by simp) ?_
 simp +contextual (maxSteps := 2000000) (disch := omega) [-Int.not_lt, -Int.not_le, -Nat.not_lt, -Nat.not_le, sx]
 refine al0 ?_; simp; refine aa0 (aW0 x hx) (by simp) ?_
 simp +contextual (maxSteps := 2000000) (disch := omega) [-Int.not_lt, -Int.not_le, -Nat.not_lt, -Nat.not_le, sx]
 refine ab0 ?_; simp; refine aa0 (cF0 (Val.mk v.kind v.num v.text (v.list ++ [x])) hb) (by simp) ?_
 simp +contextual (maxSteps := 2000000) (disch := omega) [-Int.not_lt, -Int.not_le, -Nat.not_lt, -Nat.not_le, sx]
 simp [Val.push, *]
end Go.Am
end
