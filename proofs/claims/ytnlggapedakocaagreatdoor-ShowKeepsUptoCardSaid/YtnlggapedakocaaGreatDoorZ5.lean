/- ShowKeeps of the given program, part 5 of 6 of the proof: for all arguments within the bound the law answers true, and each argument reads behind the call as before. Conditions: those of the given card. -/
import Derived.Test.YtnlggapedakocaaGreatDoorZ4
import Derived.Shelf.Strings.FuncGrows
import Derived.Test.YtnlggapedakocaaGreatDoorProg
import Derived.Shelf.Strings.Count
import Derived.Tactics
import Derived.Tactics2
import Derived.Defers
import Derived.Laws.Pointers
import Derived.Laws.LoneSync
import Derived.Laws.NewBlocks
import Derived.RegionTactic
import Derived.RegionCalls
import Derived.ChangeAlike
import Derived.Lib.ItoaLen
set_option maxHeartbeats 1600000
set_option linter.all false
set_option linter.unusedVariables false
set_option linter.unusedSimpArgs false
set_option linter.unnecessarySimpa false
section
namespace Go.Am
set_option maxRecDepth 100000
attribute [local irreducible] vc vcIs vcI vcOp vcD vcDp vcDR vcT vcAR bV0 aY0 panD neG ne pv J bH0 bM0 bY0 bd0 evK evsK nthK objK boxK rowK bz0 intK strK aggK fnK ifcK ay0 az0 ldK ldaK iaK srcK stK appK appD b00 pvK bC0 aW0 bL0 bs0 slAV bG0
variable {ts : List Tok} {n : Nat}
theorem fO0 (hE : TEnd ts) : ∀ {f : Nat} {out : List Slo} {n : Nat}, n < ts.length -> ∀ {a : List Slo} {m : Nat}, c80 ts f out n = .ok (a, m) -> n < m /\ m < ts.length
 | 0, out, n, hn, a, m, h => by simp [c80] at h
 | f + 1, out, n, hn, a, m, h => by
  rw [c80] at h
  obtain ⟨⟨s, n1⟩, e1, h⟩ := ag0 h
  have q1 := ig0 hE hn e1
  dsimp only at *
  split at h
  ·rename_i hi
   have h0 := aw0 hE q1.2 hi (by decide)
   injection h with h; injection h with h1 h2; subst h2; omega
  ·obtain ⟨n2, e2, h⟩ := ag0 h
   have q2 := al0 hE q1.2 e2
   have q3 := fO0 hE q2.2 h
   omega
def cj0 (name : ByteArray) (on : Bool) (params : V) (result : ByteArray) (body : V) (at_ : Int) : Ob := .box [vS name, vB on, params, vS result, .nil, body, vI at_]
def dx0 (ts : List Tok) (n : Int) (name : ByteArray) (on : Bool) (at_ : Int) (out : List Slo) : List Ob :=
 [cj0 name on (.arr (.e 3) 0 out.length) (bS []) .nil at_, .box [.bp (.e 2) 0], .box [.lst (ts.map Tok.cells), vI n], .row eN0 3 true (out.map Slo.cells)]
def b70 (ts : List Tok) (n : Int) (name : ByteArray) (on : Bool) (at_ : Int) (out : List Slo) : List Ob :=
 [cj0 name on (.arr (.e 4) 0 out.length) (bS []) .nil at_, .box [.bp (.e 2) 0], .box [.lst (ts.map Tok.cells), vI n], .gone, .row eN0 3 true (out.map Slo.cells)]
theorem sj0 (hE : TEnd ts) (hl : ts.length < 2 ^ 40) (hn : n < ts.length) (name : ByteArray) (on : Bool) (at_ : Int) (out : List Slo) (ho : out.length < 2 ^ 40) :
  J prog a50 [.bp (.e 0) 0, .bp (.e 1) 0] (dx0 ts n name on at_ out) (fun r => r = match ky0 ts n with
   | .ok (x, m) => .ret (.tup []) (b70 ts m name on at_ (out ++ [x]))
   | .bad a e => .pan (iX0 ts a e) (dx0 ts a name on at_ out)) := by
 have hJ := jb0 hE hl hn
 refine at0 gD0 (by simp [dx0]) ?_
 refine rS5 @di0.eq_1 @dx0.eq_1 @cj0.eq_1 @hpE.eq_1 @hpE.eq_2 ?_
 rcases hx : ky0 ts n with ⟨x, m⟩ | ⟨a, e⟩
 ·rw [hx] at hJ
  simp only [pAns] at hJ
  refine bl0 [.e 2] ?_
  simp
  have hO := hJ
  try simp [pObs, cj0, dx0, b70] at hO
  refine cE0 5 hO ?_
  refine rS0 ?_
  refine bX0 [.l 7 0] ?_
  exact rT2 @b70.eq_1 @cj0.eq_1
 ·rw [hx] at hJ
  simp only [pAns] at hJ
  refine bl0 [.e 2] ?_
  simp
  have hO := hJ
  try simp [pObs, cj0, dx0, b70] at hO
  refine cL0 hO ?_
  refine rS0 ?_
  refine endP ?_
  exact rT2 @dx0.eq_1 @cj0.eq_1
def aG0 (ts : List Tok) (n : Int) (name : ByteArray) (on : Bool) (params : V) (at_ : Int) : List Ob :=
 [.box [.lst (ts.map Tok.cells), vI n], cj0 name on params (bS []) .nil at_, .box [.bp (.e 0) 0]]
theorem mc0 (hl : ts.length < 2 ^ 40) (hn : n < ts.length) (h : isT ts n 4 [41] = true) (name : ByteArray) (on : Bool) (at_ : Int) :
  J prog bS0 [.bp (.e 0) 0, vS (bS [41]), .fn a50 [.bp (.e 1) 0, .bp (.e 2) 0]] (aG0 ts n name on .nil at_) (· = .ret (.tup []) (aG0 ts (n + 1 : Nat) name on .nil at_)) := by
 refine at0 cl0 (by simp [aG0]) ?_
 refine rS5 @bD0.eq_1 @aG0.eq_1 @cj0.eq_1 @hpE.eq_1 @hpE.eq_2 ?_
 refine aa0 [.e 0] ?_
 simp
 have hO := aj0 hn hl 4 [41]
 try simp [pObs, cj0, dx0, b70, aG0] at hO
 refine ab0 8 hO ?_
 refine rS1 h ?_
 refine ax0 [] ?_
 exact rT0
theorem md0 (hE : TEnd ts) (hl : ts.length < 2 ^ 40) (hn : n < ts.length) (h : isT ts n 4 [41] = false) (name : ByteArray) (on : Bool) (at_ : Int) (F : Nat) (hlive : (c80 ts F [] n).live) :
  J prog bS0 [.bp (.e 0) 0, vS (bS [41]), .fn a50 [.bp (.e 1) 0, .bp (.e 2) 0]] (aG0 ts n name on .nil at_) (fun r => match c80 ts F [] n with
   | .ok (xs, m) => r = .ret (.tup []) (aG0 ts m name on (.arr (.e 3) 0 xs.length) at_ ++ [.row eN0 3 true (xs.map Slo.cells)])
   | .bad a e => ∃ y : List (List V), r = .pan (iX0 ts a e) (aG0 ts a name on (.lst y) at_)) := by
 generalize hR : c80 ts F [] n = R at *
 refine at0 cl0 (by simp [aG0]) ?_
 refine rS5 @bD0.eq_1 @aG0.eq_1 @cj0.eq_1 @hpE.eq_1 @hpE.eq_2 ?_
 refine aa0 [.e 0] ?_
 simp
 have hO := aj0 hn hl 4 [41]
 try simp [pObs, cj0, dx0, b70, aG0] at hO
 refine ab0 8 hO ?_
 refine rS1 h ?_
 refine aO0 (fun y : Nat × Nat × List Slo => y.1) (fun y => [(0, .bp (.e 0) 0), (1, vS (bS [41])), (2, .fn a50 [.bp (.e 1) 0, .bp (.e 2) 0])])
  (fun y => [(.e 0, .box [.lst (ts.map Tok.cells), vI y.2.1]), (.e 1, cj0 name on (.arr (.l 999 0) 0 y.2.2.length) (bS []) .nil at_), (.e 2, .box [.bp (.e 0) 0]), (.l 999 0, .row eN0 3 true (y.2.2.map Slo.cells))])
  (fun y => y.1 <= F /\ y.2.1 < ts.length /\ y.2.2.length <= y.2.1 /\ c80 ts y.1 y.2.2 y.2.1 = R) (F, n, []) ⟨Nat.le_refl _, hn, by simp, hR⟩
  (Wk.trans (Wk.subs (by simp) (by simp [cj0])) (Wk.rowB (b := .e 1) (id := .l 999 0) (off := 2) (ty := eN0) (sz := 3) rfl rfl (by simp) (by simp))) ?_
 rintro ⟨g, n', out⟩ ⟨hg, hn', ho, hw⟩
 dsimp only at hg hn' ho hw
 obtain _ | g := g
 ·rw [c80] at hw; subst hw; exact absurd rfl hlive
 rw [c80] at hw
 have hJ := sj0 hE hl hn' name on at_ out (by omega)
 rcases hx : ky0 ts n' with ⟨x, m⟩ | ⟨a, e⟩
 ·rw [hx] at hJ hw
  simp only [LxR.bind] at hw
  have q1 := ig0 hE hn' hx
  refine rS1 @cj0.eq_1 ?_
  refine aa0 [.e 1, .e 2, .e 0, .l 999 0] ?_
  simp
  have hO := hJ
  try simp [pObs, cj0, dx0, b70, aG0] at hO
  refine ab0 10 hO ?_
  refine rS0 ?_
  refine aa0 [.e 0] ?_
  simp
  have hO := aj0 q1.2 hl 4 [41]
  try simp [pObs, cj0, dx0, b70, aG0] at hO
  refine ab0 13 hO ?_
  cases h2 : isT ts m 4 [41] with
  | true =>
   rw [h2, if_pos rfl] at hw
   subst hw
   refine rS0 ?_
   refine ax0 [.l 10 0] ?_
   exact rT0
  | false =>
   rw [h2, if_neg (by simp)] at hw
   refine rS0 ?_
   have hJ2 := aq0 q1.2 hl [44]
   rcases h3 : bi0 ts m [44] with m2 | ⟨a, e⟩
   ·have q2 := al0 hE q1.2 h3
    rw [h3] at hJ2 hw
    simp only [LxR.bind] at hw
    simp only [ar0] at hJ2
    refine aa0 [.e 0] ?_
    simp
    have hO := hJ2
    try simp [pObs, cj0, dx0, b70, aG0] at hO
    refine ab0 15 hO ?_
    refine rS0 ?_
    refine .of (g, m2, out ++ [x]) ⟨by dsimp only; omega, q2.2, by simp; omega, hw⟩ (by dsimp only; omega) (Wk.rens (.l 10 0) (.l 999 0) rfl (by simp) (by simp [renF, cj0]) (by simp [renF, bO0, cj0]))
   ·rw [h3] at hJ2 hw
    simp only [LxR.bind] at hw
    simp only [ar0] at hJ2
    subst hw
    refine aa0 [.e 0] ?_
    simp
    have hO := hJ2
    try simp [pObs, cj0, dx0, b70, aG0] at hO
    refine af0 hO ?_
    refine rS0 ?_
    refine endP ?_
    exact rT0
 ·rw [hx] at hJ hw
  simp only [LxR.bind] at hw
  subst hw
  refine rS1 @cj0.eq_1 ?_
  refine aa0 [.e 1, .e 2, .e 0, .l 999 0] ?_
  simp
  have hO := hJ
  try simp [pObs, cj0, dx0, b70, aG0] at hO
  refine af0 hO ?_
  refine rS0 ?_
  refine endP ?_
  exact rT0
variable {ts : List Tok} {n : Nat}
theorem kx0 (hE : TEnd ts) (hn : n < ts.length) {f : Nat} {on : Bool} {a : Fun} {m : Nat} (h : pFun ts f on n = .ok (a, m)) : n < m /\ m < ts.length := by
 unfold pFun at h
 obtain ⟨⟨t, n1⟩, e1, h⟩ := ag0 h
 obtain ⟨n2, e2, h⟩ := ag0 h
 obtain ⟨⟨ps, n3⟩, e3, h⟩ := ag0 h
 obtain ⟨n4, e4, h⟩ := ag0 h
 obtain ⟨⟨k, n5⟩, e5, h⟩ := ag0 h
 obtain ⟨⟨b, n6⟩, e6, h⟩ := ag0 h
 have q1 := a10 hE hn e1
 have q2 := al0 hE q1.2 e2
 dsimp only at *
 have q3 : n2 < n3 /\ n3 < ts.length := by
  split at e3
  ·rename_i hi
   have h0 := aw0 hE q2.2 hi (by decide)
   injection e3 with e3; injection e3 with h1 h2; subst h2; omega
  ·exact fO0 hE q2.2 e3
 have q4 := al0 hE q3.2 e4
 have q5 := eP0 hE q4.2 e5
 have q6 := (mY0 hE f).block q5.2.1 e6
 injection h with h; injection h with h1 h2; subst h2
 omega
set_option maxHeartbeats 1600000 in
theorem gv0 (hE : TEnd ts) (hl : ts.length < 2 ^ 40) (F : Nat) (on : Bool) (hn : n < ts.length) (hlive : (pFun ts F on n).live) :
  J prog eb0 [.bp (.e 0) 0, vB on] (pObs ts n) (· = pAns ts Fun.V (pFun ts F on n)) := by
 generalize hw : pFun ts F on n = R at *
 rw [pFun] at hw
 refine at0 hG0 (by simp [pObs]) ?_
 refine rS4 @dH0.eq_1 @pObs.eq_1 @hpE.eq_1 @hpE.eq_2 ?_
 have hJ := eo0 hn hl
 rcases hx1 : dA0 ts n with ⟨t, n1⟩ | ⟨a, e⟩
 rotate_left
 ·rw [hx1] at hJ hw
  simp only [pAns, ar0, LxR.bind] at hJ hw
  subst hw
  refine aa0 [.e 0] ?_
  simp
  have hO := hJ
  try simp [pObs, cj0, dx0, b70, aG0] at hO
  refine af0 hO ?_
  refine rS0 ?_
  refine endP ?_
  exact rT3 @pObs.eq_1 @pAns.eq_1 @pAns.eq_2
 have q1 := a10 hE hn hx1
 rw [hx1] at hJ hw
 simp only [pAns, ar0, LxR.bind] at hJ hw
 refine aa0 [.e 0] ?_
 simp
 have hO := hJ
 try simp [pObs, cj0, dx0, b70, aG0] at hO
 refine ab0 8 hO ?_
 refine rS0 ?_
 have hJ := aq0 q1.2 hl [40]
 rcases hx2 : bi0 ts n1 [40] with n2 | ⟨a, e⟩
 rotate_left
 ·rw [hx2] at hJ hw
  simp only [pAns, ar0, LxR.bind] at hJ hw
  subst hw
  refine aa0 [.e 0] ?_
  simp
  have hO := hJ
  try simp [pObs, cj0, dx0, b70, aG0] at hO
  refine af0 hO ?_
  refine rS0 ?_
  refine endP ?_
  exact rT3 @pObs.eq_1 @pAns.eq_1 @pAns.eq_2
 have q2 := al0 hE q1.2 hx2
 rw [hx2] at hJ hw
 simp only [pAns, ar0, LxR.bind] at hJ hw
 refine aa0 [.e 0] ?_
 simp
 have hO := hJ
 try simp [pObs, cj0, dx0, b70, aG0] at hO
 refine ab0 16 hO ?_
 refine rS0 ?_
 cases hb : isT ts n2 4 [41] with
 | true =>
  have h00 := aw0 hE q2.2 hb (by decide)
  rw [hb] at hw
  simp only [if_true, LxR.bind] at hw
  refine aa0 [.e 0, .l 6 0, .l 2 0] ?_
  simp
  have hO := mc0 hl q2.2 hb t.text on t.at_
  try simp [pObs, cj0, dx0, b70, aG0] at hO
  refine ab0 19 hO ?_
  refine rS0 ?_
  have hJ := aq0 h00 hl [58]
  rcases hx3 : bi0 ts (n2 + 1) [58] with n4 | ⟨a, e⟩
  rotate_left
  ·rw [hx3] at hJ hw
   simp only [pAns, ar0, LxR.bind] at hJ hw
   subst hw
   refine aa0 [.e 0] ?_
   simp
   have hO := hJ
   try simp [pObs, cj0, dx0, b70, aG0] at hO
   refine af0 hO ?_
   refine rS0 ?_
   refine endP ?_
   exact rT3 @pObs.eq_1 @pAns.eq_1 @pAns.eq_2
  have q3 := al0 hE h00 hx3
  rw [hx3] at hJ hw
  simp only [pAns, ar0, LxR.bind] at hJ hw
  refine aa0 [.e 0] ?_
  simp
  have hO := hJ
  try simp [pObs, cj0, dx0, b70, aG0] at hO
  refine ab0 21 hO ?_
  refine rS0 ?_
  have hJ := c90 hE hl 4 1 n4 rfl q3.2
  rcases hx4 : fL0 ts 4 n4 with ⟨k, n5⟩ | ⟨a, e⟩
  rotate_left
  ·rw [hx4] at hJ hw
   simp only [pAns, ar0, LxR.bind] at hJ hw
   subst hw
   refine aa0 [.e 0] ?_
   simp
   have hO := hJ
   try simp [pObs, cj0, dx0, b70, aG0] at hO
   refine af0 hO ?_
   refine rS0 ?_
   refine endP ?_
   exact rT3 @pObs.eq_1 @pAns.eq_1 @pAns.eq_2
  have q4 := eP0 hE q3.2 hx4
  rw [hx4] at hJ hw
  simp only [pAns, ar0, LxR.bind] at hJ hw
  refine aa0 [.e 0] ?_
  simp
  have hO := hJ
  try simp [pObs, cj0, dx0, b70, aG0] at hO
  refine ab0 23 hO ?_
  refine rS0 ?_
  have hlv := hlive
  rw [<- hw] at hlv
  have hJ := (doesS hE hl F).block 1 n5 (by omega) q4.2.1 (LxR.aI0 hlv).1
  rcases hx5 : ca0 ts F 1 n5 with ⟨b, n6⟩ | ⟨a, e⟩
  rotate_left
  ·rw [hx5] at hJ hw
   simp only [pAns, ar0, LxR.bind] at hJ hw
   subst hw
   refine aa0 [.e 0] ?_
   simp
   have hO := hJ
   try simp [pObs, cj0, dx0, b70, aG0] at hO
   refine af0 hO ?_
   refine rS0 ?_
   refine endP ?_
   exact rT3 @pObs.eq_1 @pAns.eq_1 @pAns.eq_2
  have q5 := (mY0 hE F).block q4.2.1 hx5
  rw [hx5] at hJ hw
  simp only [pAns, ar0, LxR.bind] at hJ hw
  refine aa0 [.e 0] ?_
  simp
  have hO := hJ
  try simp [pObs, cj0, dx0, b70, aG0] at hO
  refine ab0 26 hO ?_
  refine rS0 ?_
  subst hw
  refine ax0 [] ?_
  exact rT4 @pObs.eq_1 @pAns.eq_1 @pAns.eq_2 @Fun.ac0
 | false =>
 rw [hb] at hw
 simp only [Bool.false_eq_true, if_false] at hw
 have hlv := hlive
 rw [<- hw] at hlv
 have hJ := md0 hE hl q2.2 hb t.text on t.at_ F (LxR.aI0 hlv).1
 rcases hx3 : c80 ts F [] n2 with ⟨ps, n3⟩ | ⟨a, e⟩
 rotate_left
 ·rw [hx3] at hJ hw
  simp only [pAns, ar0, LxR.bind] at hJ hw
  subst hw
  refine cZ0 [.e 0, .l 6 0, .l 2 0] rfl rfl (by simp) ?_
  simp
  have hpO := hJ
  try simp [pObs, cj0, aG0] at hpO
  refine cM0 hpO ?_
  clear hpO hJ
  intro y
  refine rS0 ?_
  refine endP ?_
  exact rT3 @pObs.eq_1 @pAns.eq_1 @pAns.eq_2
 have q3 := fO0 hE q2.2 hx3
 rw [hx3] at hJ hw
 simp only [pAns, ar0, LxR.bind] at hJ hw
 refine aa0 [.e 0, .l 6 0, .l 2 0] ?_
 simp
 have hO := hJ
 try simp [pObs, cj0, dx0, b70, aG0] at hO
 refine ab0 19 hO ?_
 refine rS0 ?_
 have hJ := aq0 q3.2 hl [58]
 rcases hx4 : bi0 ts n3 [58] with n4 | ⟨a, e⟩
 rotate_left
 ·rw [hx4] at hJ hw
  simp only [pAns, ar0, LxR.bind] at hJ hw
  subst hw
  refine aa0 [.e 0] ?_
  simp
  have hO := hJ
  try simp [pObs, cj0, dx0, b70, aG0] at hO
  refine af0 hO ?_
  refine rS0 ?_
  refine endP ?_
  exact rT3 @pObs.eq_1 @pAns.eq_1 @pAns.eq_2
 have q4 := al0 hE q3.2 hx4
 rw [hx4] at hJ hw
 simp only [pAns, ar0, LxR.bind] at hJ hw
 refine aa0 [.e 0] ?_
 simp
 have hO := hJ
 try simp [pObs, cj0, dx0, b70, aG0] at hO
 refine ab0 21 hO ?_
 refine rS0 ?_
 have hJ := c90 hE hl 4 1 n4 rfl q4.2
 rcases hx5 : fL0 ts 4 n4 with ⟨k, n5⟩ | ⟨a, e⟩
 rotate_left
 ·rw [hx5] at hJ hw
  simp only [pAns, ar0, LxR.bind] at hJ hw
  subst hw
  refine aa0 [.e 0] ?_
  simp
  have hO := hJ
  try simp [pObs, cj0, dx0, b70, aG0] at hO
  refine af0 hO ?_
  refine rS0 ?_
  refine endP ?_
  exact rT3 @pObs.eq_1 @pAns.eq_1 @pAns.eq_2
 have q5 := eP0 hE q4.2 hx5
 rw [hx5] at hJ hw
 simp only [pAns, ar0, LxR.bind] at hJ hw
 refine aa0 [.e 0] ?_
 simp
 have hO := hJ
 try simp [pObs, cj0, dx0, b70, aG0] at hO
 refine ab0 23 hO ?_
 refine rS0 ?_
 have hlv := hlive
 rw [<- hw] at hlv
 have hJ := (doesS hE hl F).block 1 n5 (by omega) q5.2.1 (LxR.aI0 hlv).1
 rcases hx6 : ca0 ts F 1 n5 with ⟨b, n6⟩ | ⟨a, e⟩
 rotate_left
 ·rw [hx6] at hJ hw
  simp only [pAns, ar0, LxR.bind] at hJ hw
  subst hw
  refine aa0 [.e 0] ?_
  simp
  have hO := hJ
  try simp [pObs, cj0, dx0, b70, aG0] at hO
  refine af0 hO ?_
  refine rS0 ?_
  refine endP ?_
  exact rT3 @pObs.eq_1 @pAns.eq_1 @pAns.eq_2
 have q6 := (mY0 hE F).block q5.2.1 hx6
 rw [hx6] at hJ hw
 simp only [pAns, ar0, LxR.bind] at hJ hw
 refine aa0 [.e 0] ?_
 simp
 have hO := hJ
 try simp [pObs, cj0, dx0, b70, aG0] at hO
 refine ab0 26 hO ?_
 refine rS0 ?_
 subst hw
 refine ax0 [] ?_
 exact rT4 @pObs.eq_1 @pAns.eq_1 @pAns.eq_2 @Fun.ac0
variable {ts : List Tok} {n : Nat}
set_option maxHeartbeats 1600000 in
theorem ld0 (hE : TEnd ts) (hl : ts.length < 2 ^ 40) (F : Nat) (hn : 0 < ts.length) (hlive : (lE0 ts F).live) :
  J prog ev0 [.bp (.e 0) 0] (pObs ts 0) (· = pAns ts Prg.V (lE0 ts F)) := by
 generalize hw : lE0 ts F = R at *
 rw [lE0] at hw
 refine at0 h80 (by simp [pObs]) ?_
 refine rS4 @dV0.eq_1 @pObs.eq_1 @hpE.eq_1 @hpE.eq_2 ?_
 refine aa0 [.e 0] ?_
 simp
 have hO := aj0 (n := 0) hn hl 1 cI0
 try simp [pObs] at hO
 refine ab0 5 hO ?_
 cases hb : isT ts 0 1 cI0 with
 | false =>
  rw [nf0, hb] at hw
  simp only [Bool.false_eq_true, if_false, e50, LxR.bind] at hw
  subst hw
  refine rS0 ?_
  refine aa0 [.e 0] ?_
  simp
  have hO := aX0 (n := 0) hn 31
  try simp [pObs] at hO
  refine af0 hO ?_
  refine rS0 ?_
  refine endP ?_
  exact rT3 @pObs.eq_1 @pAns.eq_1 @pAns.eq_2
 | true =>
 have h00 := aw0 hE hn hb (by decide)
 rw [nf0, hb] at hw
 simp only [if_true, LxR.bind] at hw
 refine rS0 ?_
 have hJ := nQ0 h00 hl
 rcases hx1 : pInt ts (0 + 1) with ⟨v, n1⟩ | ⟨a, e⟩
 rotate_left
 ·rw [hx1] at hJ hw
  simp only [pAns, ar0, LxR.bind] at hJ hw
  subst hw
  refine aa0 [.e 0] ?_
  simp
  have hO := hJ
  try simp [pObs] at hO
  refine af0 hO ?_
  refine rS0 ?_
  refine endP ?_
  exact rT3 @pObs.eq_1 @pAns.eq_1 @pAns.eq_2
 have q1 := qX0 hE h00 hx1
 rw [hx1] at hJ hw
 simp only [pAns, ar0, LxR.bind] at hJ hw
 refine aa0 [.e 0] ?_
 simp
 have hO := hJ
 try simp [pObs] at hO
 refine ab0 10 hO ?_
 refine rS0 ?_
 have hJ := aq0 q1.2 hl [59]
 rcases hx2 : bi0 ts n1 [59] with n2 | ⟨a, e⟩
 rotate_left
 ·rw [hx2] at hJ hw
  simp only [pAns, ar0, LxR.bind] at hJ hw
  subst hw
  refine aa0 [.e 0] ?_
  simp
  have hO := hJ
  try simp [pObs] at hO
  refine af0 hO ?_
  refine rS0 ?_
  refine endP ?_
  exact rT3 @pObs.eq_1 @pAns.eq_1 @pAns.eq_2
 have q2 := al0 hE q1.2 hx2
 rw [hx2] at hJ hw
 simp only [pAns, ar0, LxR.bind] at hJ hw
 refine aa0 [.e 0] ?_
 simp
 have hO := hJ
 try simp [pObs] at hO
 refine ab0 14 hO ?_
 refine rS0 ?_
 refine aO0 (fun y : Nat × Nat × Prg => y.1) (fun y => [(3, .bp (.l 3 0) 0), (2, .bp (.l 2 0) 0), (0, .bp (.e 0) 0)])
  (fun y => [(.e 0, .box [.lst (ts.map Tok.cells), vI y.2.1]), (.l 3 0, .box [vI y.2.2.version, .arr (.l 998 0) 0 y.2.2.states.length, .arr (.l 999 0) 0 y.2.2.fns.length]),
   (.l 998 0, .row eN0 3 true (y.2.2.states.map Slo.cells)), (.l 999 0, .row rP0 7 true (y.2.2.fns.map Fun.cells)), (.l 2 0, .box [vI 0, .nil, .nil])])
  (fun y => y.1 <= F /\ y.2.1 < ts.length /\ y.2.2.states.length <= y.2.1 /\ y.2.2.fns.length <= y.2.1 /\ mg0 ts y.1 y.2.2 y.2.1 = R) (F, n2, ⟨v.num, [], []⟩) ⟨Nat.le_refl _, q2.2, by simp, by simp, hw⟩
  (Wk.trans (Wk.subs (by simp) (by simp)) (Wk.trans (Wk.rowB (b := .l 3 0) (id := .l 999 0) (off := 2) (ty := rP0) (sz := 7) rfl rfl (by simp) (by simp)) (Wk.rowB (b := .l 3 0) (id := .l 998 0) (off := 1) (ty := eN0) (sz := 3) rfl rfl (by simp) (by simp)))) ?_
 rintro ⟨g, n', ⟨ver, sts, fns⟩⟩ ⟨hg, hn', ho1, ho2, hw⟩
 dsimp only at hg hn' ho1 ho2 hw
 obtain _ | g := g
 ·rw [mg0] at hw; subst hw; exact absurd rfl hlive
 rw [mg0] at hw
 refine rS0 ?_
 refine aa0 [.e 0] ?_
 simp
 have hO := a90 hn'
 try simp [pObs] at hO
 refine ab0 16 hO ?_
 by_cases hk : (tk ts n').kind = 5
 ·rw [if_pos hk] at hw
  subst hw
  refine rS1 hk ?_
  refine ax0 [] ?_
  exact rT4 @pObs.eq_1 @pAns.eq_1 @pAns.eq_2 @Prg.ac0
 rw [if_neg hk] at hw
 refine rS1 hk ?_
 refine aa0 [.e 0] ?_
 simp
 have hO := aj0 hn' hl 1 fi0
 try simp [pObs] at hO
 refine ab0 23 hO ?_
 cases h1 : isT ts n' 1 fi0 with
 | true =>
  have h0 := aw0 hE hn' h1 (by decide)
  rw [h1] at hw
  simp only [if_true] at hw
  refine rS0 ?_
  have hJ := jb0 hE hl h0
  rcases hx3 : ky0 ts (n' + 1) with ⟨s, n3⟩ | ⟨a, e⟩
  rotate_left
  ·rw [hx3] at hJ hw
   simp only [pAns, ar0, LxR.bind] at hJ hw
   subst hw
   refine bl0 [.e 0] ?_
   simp
   have hO := hJ
   try simp [pObs] at hO
   refine cL0 hO ?_
   refine rS0 ?_
   refine endP ?_
   exact rT3 @pObs.eq_1 @pAns.eq_1 @pAns.eq_2
  have q3 := ig0 hE h0 hx3
  rw [hx3] at hJ hw
  simp only [pAns, ar0, LxR.bind] at hJ hw
  refine bl0 [.e 0] ?_
  simp
  have hO := hJ
  try simp [pObs] at hO
  refine cE0 27 hO ?_
  refine rS0 ?_
  have hJ := aq0 q3.2 hl [59]
  rcases hx4 : bi0 ts n3 [59] with n4 | ⟨a, e⟩
  rotate_left
  ·rw [hx4] at hJ hw
   simp only [pAns, ar0, LxR.bind] at hJ hw
   subst hw
   refine aa0 [.e 0] ?_
   simp
   have hO := hJ
   try simp [pObs] at hO
   refine af0 hO ?_
   refine rS0 ?_
   refine endP ?_
   exact rT3 @pObs.eq_1 @pAns.eq_1 @pAns.eq_2
  have q4 := al0 hE q3.2 hx4
  rw [hx4] at hJ hw
  simp only [pAns, ar0, LxR.bind] at hJ hw
  refine aa0 [.e 0] ?_
  simp
  have hO := hJ
  try simp [pObs] at hO
  refine ab0 32 hO ?_
  refine rS0 ?_
  refine .of (g, n4, ⟨ver, sts ++ [s], fns⟩) ⟨by dsimp only; omega, q4.2, by simp; omega, by dsimp only; omega, hw⟩ (by dsimp only; omega) (Wk.rens (.l 29 0) (.l 998 0) rfl (by simp) (by simp [renF]) (by simp [renF, bO0]))
 | false =>
 rw [h1] at hw
 simp only [Bool.false_eq_true, if_false] at hw
 refine rS0 ?_
 refine aa0 [.e 0] ?_
 simp
 have hO := aj0 hn' hl 1 kwFn
 try simp [pObs] at hO
 refine ab0 35 hO ?_
 cases h2 : isT ts n' 1 kwFn with
 | true =>
  have h0 := aw0 hE hn' h2 (by decide)
  rw [h2] at hw
  simp only [if_true] at hw
  refine rS0 ?_
  have hlv := hlive
  rw [<- hw] at hlv
  have hJ := gv0 hE hl g false h0 (LxR.aI0 hlv).1
  rcases hx3 : pFun ts g false (n' + 1) with ⟨s, n3⟩ | ⟨a, e⟩
  rotate_left
  ·rw [hx3] at hJ hw
   simp only [pAns, ar0, LxR.bind] at hJ hw
   subst hw
   refine bl0 [.e 0] ?_
   simp
   have hO := hJ
   try simp [pObs] at hO
   refine cL0 hO ?_
   refine rS0 ?_
   refine endP ?_
   exact rT3 @pObs.eq_1 @pAns.eq_1 @pAns.eq_2
  have q3 := kx0 hE h0 hx3
  rw [hx3] at hJ hw
  simp only [pAns, ar0, LxR.bind] at hJ hw
  refine bl0 [.e 0] ?_
  simp
  have hO := hJ
  try simp [pObs] at hO
  refine cE0 39 hO ?_
  refine rS0 ?_
  refine .of (g, n3, ⟨ver, sts, fns ++ [s]⟩) ⟨by dsimp only; omega, q3.2, by dsimp only; omega, by simp; omega, hw⟩ (by dsimp only; omega) (Wk.rens (.l 41 0) (.l 999 0) rfl (by simp) (by simp [renF]) (by simp [renF, bO0]))
 | false =>
 rw [h2] at hw
 simp only [Bool.false_eq_true, if_false] at hw
 refine rS0 ?_
 refine aa0 [.e 0] ?_
 simp
 have hO := aj0 hn' hl 1 kwOn
 try simp [pObs] at hO
 refine ab0 45 hO ?_
 cases h3 : isT ts n' 1 kwOn with
 | true =>
  have h0 := aw0 hE hn' h3 (by decide)
  rw [h3] at hw
  simp only [if_true] at hw
  refine rS0 ?_
  have hlv := hlive
  rw [<- hw] at hlv
  have hJ := gv0 hE hl g true h0 (LxR.aI0 hlv).1
  rcases hx3 : pFun ts g true (n' + 1) with ⟨s, n3⟩ | ⟨a, e⟩
  rotate_left
  ·rw [hx3] at hJ hw
   simp only [pAns, ar0, LxR.bind] at hJ hw
   subst hw
   refine bl0 [.e 0] ?_
   simp
   have hO := hJ
   try simp [pObs] at hO
   refine cL0 hO ?_
   refine rS0 ?_
   refine endP ?_
   exact rT3 @pObs.eq_1 @pAns.eq_1 @pAns.eq_2
  have q3 := kx0 hE h0 hx3
  rw [hx3] at hJ hw
  simp only [pAns, ar0, LxR.bind] at hJ hw
  refine bl0 [.e 0] ?_
  simp
  have hO := hJ
  try simp [pObs] at hO
  refine cE0 49 hO ?_
  refine rS0 ?_
  refine .of (g, n3, ⟨ver, sts, fns ++ [s]⟩) ⟨by dsimp only; omega, q3.2, by dsimp only; omega, by simp; omega, hw⟩ (by dsimp only; omega) (Wk.rens (.l 51 0) (.l 999 0) rfl (by simp) (by simp [renF]) (by simp [renF, bO0]))
 | false =>
 rw [h3] at hw
 simp only [Bool.false_eq_true, if_false, e50] at hw
 subst hw
 refine rS0 ?_
 refine aa0 [.e 0] ?_
 simp
 have hO := aX0 hn' 31
 try simp [pObs] at hO
 refine af0 hO ?_
 refine rS0 ?_
 refine endP ?_
 exact rT3 @pObs.eq_1 @pAns.eq_1 @pAns.eq_2
theorem hT67 : liesAt prog prog.depth 67 (2 / prog.cellsOf 67) 0 67 1 = true := by kernel_rfl
def nC0 (acc : List UInt8) : Hp :=
 match acc with
 | [] => [(.l 2 0, .box [.self (.l 2 0) 67, .nil])]
 | a :: l => [(.l 2 0, .box [.self (.l 2 0) 67, .arr (.l 999 0) 0 (l.length + 1)]), (.l 999 0, .row 5 1 true ((a :: l).map ao0))]
def j10 (s : Bs) (i : Nat) : LxR (Int × Bs × Int × Nat) := match ij0 i (s.drop (i + 1)) (i + 1) [] with
 | .bad a e => .bad a e
 | .ok (t, j) => .ok (3, t, 0, j)
set_option maxHeartbeats 1600000 in
theorem oS0 (x : LxS) (i : Nat) (hx : x.at_ = i) (hi : i < x.s.size) (hs : x.s.size < 2 ^ 39) (ho : x.out.length <= 4096) :
  J prog ip0 [.bp (.e 0) 0] x.obs (· = x.after (j10 (sB x.s) i)) := by
 obtain ⟨s, a, out⟩ := x
 dsimp only at hx hi hs ho ⊢
 subst hx
 have hz : s.size = (sB s).length := rfl
 refine at0 lu0 (by simp [LxS.obs]) ?_
 refine rS4 @hs0.eq_1 @LxS.obs.eq_1 @hpE.eq_1 @hpE.eq_2 ?_
 refine aO0 (fun y : Nat × List UInt8 => s.size - y.1) (fun y => [(3, vI y.1), (2, .bp (.l 2 0) 0), (0, .bp (.e 0) 0)])
  (fun y => (.e 0, .box [vS s, vI i, .arr (.e 1) 0 out.length]) :: (.e 1, .row bW0 4 true (out.map Tok.cells)) :: nC0 y.2)
  (fun y => i < y.1 /\ y.1 <= s.size /\ y.2.length <= y.1 /\ ij0 i ((sB s).drop y.1) y.1 y.2 = ij0 i ((sB s).drop (i + 1)) (i + 1) []) (i + 1, []) ⟨by simp, by dsimp only; omega, by simp, rfl⟩ (Wk.subs (by simp) (by simp [nC0])) ?_
 rintro ⟨j, acc⟩ ⟨hj0, hj, hacc, hv⟩
 dsimp only at hj0 hj hacc hv
 have key : (j < s.size /\ ∃ c, (sB s)[j]? = some c /\ (sB s).drop j = c :: (sB s).drop (j + 1)) \/ j = s.size := by
  rcases Nat.lt_or_ge j s.size with h | h
  ·exact .inl ⟨h, (sB s)[j], List.getElem?_eq_getElem (by omega), List.drop_eq_getElem_cons (by omega)⟩
  ·exact .inr (by omega)
 cases acc with
 | nil =>
  simp only [nC0]
  rcases key with ⟨hl, c, hc, hd⟩ | rfl
  ·rw [hd, ij0.eq_def] at hv
   simp only at hv
   have hc' : s.data[j]? = some c := by simpa [sB] using hc
   by_cases h34 : c = 34
   ·subst h34
    refine rS1 hc' ?_
    refine aa0 [.l 2 0] ?_
    simp
    have hO := my0 67
    try simp [LxS.obs, LxS.obs', Tok.ac0, ae0, ad0, aB0, aM0] at hO
    refine ab0 28 hO ?_
    refine rS0 ?_
    refine aa0 [.l 2 0] ?_
    simp
    have hO := Builder_String_nil 67
    try simp [LxS.obs, LxS.obs', Tok.ac0, ae0, ad0, aB0, aM0] at hO
    refine ab0 37 hO ?_
    rw [if_pos rfl, if_neg (by simp)] at hv
    refine rS0 ?_
    rw [j10, <- hv]
    by_cases hfull : 4096 <= out.length
    ·refine aa0 [.e 0, .e 1] ?_
     simp
     have hO := dE0 ⟨s, i, out⟩ ⟨3, bS [], 0, 0⟩ (j + 1) hfull (by dsimp only; omega)
     try simp [LxS.obs, LxS.obs', Tok.ac0, ae0, ad0, aB0, aM0] at hO
     refine af0 hO ?_
     refine rS0 ?_
     refine endP ?_
     exact rT4 @LxS.after.eq_1 @LxS.after.eq_2 @LxS.obs.eq_1 hfull
    ·refine aa0 [.e 0, .e 1] ?_
     simp
     have hO := eJ0 ⟨s, i, out⟩ ⟨3, bS [], 0, 0⟩ (j + 1) (by dsimp only; omega)
     try simp [LxS.obs, LxS.obs', Tok.ac0, ae0, ad0, aB0, aM0] at hO
     refine ab0 41 hO ?_
     refine rS0 ?_
     refine ax0 [.l 41 0] ?_
     exact rT5 @LxS.after.eq_1 @LxS.after.eq_2 @LxS.obs'.eq_1 hfull @Tok.ac0
   rw [if_neg h34] at hv
   have n34 : ¬ (c.toNat : Int) = 34 := fun h => h34 (UInt8.toNat_inj.1 (by exact_mod_cast h))
   by_cases hctl : c < 32 \/ 126 < c
   ·rw [if_pos hctl] at hv
    have hctl' : (c.toNat : Int) < 32 \/ 126 < (c.toNat : Int) := by
     rcases hctl with h | h
     ·left; have := UInt8.lt_iff_toNat_lt.1 h; simp at this; omega
     ·right; have := UInt8.lt_iff_toNat_lt.1 h; simp at this; omega
    refine rS2 hc' n34 ?_
    refine ⟨fun h => ?_, fun h => ?_⟩
    all_goals first | (exfalso; omega) | skip
    all_goals
     refine aa0 [.e 0, .e 1] ?_
     simp
     have hO := aV0 ⟨s, i, out⟩ j 30
     try simp [LxS.obs, LxS.obs', Tok.ac0, ae0, ad0, aB0, aM0] at hO
     refine af0 hO ?_
     refine rS0 ?_
     refine endP ?_
     rw [j10, <- hv]
     exact rT3 @LxS.after.eq_1 @LxS.after.eq_2 @LxS.obs.eq_1
   rw [if_neg hctl] at hv
   have c32 : ¬ (c.toNat : Int) < 32 := fun h => hctl (.inl (UInt8.lt_iff_toNat_lt.2 (by simp; omega)))
   have c126 : ¬ 126 < (c.toNat : Int) := fun h => hctl (.inr (UInt8.lt_iff_toNat_lt.2 (by simp; omega)))
   by_cases h92 : c = 92
   ·subst h92
    rw [if_pos rfl] at hv
    rcases Nat.lt_or_ge (j + 1) s.size with hl2 | hl2
    ·obtain ⟨d, hd1, hd2⟩ : ∃ d, s.data[j + 1]? = some d /\ (sB s).drop (j + 1) = d :: (sB s).drop (j + 2) :=
      ⟨(sB s)[j + 1]'(by omega), by simp [sB], List.drop_eq_getElem_cons (by omega)⟩
     rw [hd2] at hv
     simp only at hv
     by_cases hq : d = 34 \/ d = 92
     ·rw [if_pos hq] at hv
      rcases hq with rfl | rfl
      ·refine rS2 hc' hd1 ?_
       refine aa0 [.l 2 0] ?_
       simp
       have hO := cY0 67 34 hT67
       try simp [LxS.obs, LxS.obs', Tok.ac0, ae0, ad0, aB0, aM0] at hO
       refine ab0 93 hO ?_
       refine rS0 ?_
       refine .of (j + 2, [34]) ⟨by dsimp only; omega, by dsimp only; omega, by simp, hv⟩ (by dsimp only; omega) (Wk.rens (.l 93 0) (.l 999 0) rfl (by simp) (by simp [renF, nC0]; omega) (by simp [renF, bO0]))
      ·refine rS2 hc' hd1 ?_
       refine aa0 [.l 2 0] ?_
       simp
       have hO := cY0 67 92 hT67
       try simp [LxS.obs, LxS.obs', Tok.ac0, ae0, ad0, aB0, aM0] at hO
       refine ab0 93 hO ?_
       refine rS0 ?_
       refine .of (j + 2, [92]) ⟨by dsimp only; omega, by dsimp only; omega, by simp, hv⟩ (by dsimp only; omega) (Wk.rens (.l 93 0) (.l 999 0) rfl (by simp) (by simp [renF, nC0]; omega) (by simp [renF, bO0]))
     ·rw [if_neg hq] at hv
      have q34 : ¬ (d.toNat : Int) = 34 := fun h => hq (.inl (UInt8.toNat_inj.1 (by exact_mod_cast h)))
      have q92 : ¬ (d.toNat : Int) = 92 := fun h => hq (.inr (UInt8.toNat_inj.1 (by exact_mod_cast h)))
      refine rS4 hc' hd1 q34 q92 ?_
      refine aa0 [.e 0, .e 1] ?_
      simp
      have hO := aV0 ⟨s, i, out⟩ j 30
      try simp [LxS.obs, LxS.obs', Tok.ac0, ae0, ad0, aB0, aM0] at hO
      refine af0 hO ?_
      refine rS0 ?_
      refine endP ?_
      rw [j10, <- hv]
      exact rT3 @LxS.after.eq_1 @LxS.after.eq_2 @LxS.obs.eq_1
    ·rw [List.drop_of_length_le (by omega)] at hv
     simp only at hv
     refine rS1 hc' ?_
     refine aa0 [.e 0, .e 1] ?_
     simp
     have hO := aV0 ⟨s, i, out⟩ j 30
     try simp [LxS.obs, LxS.obs', Tok.ac0, ae0, ad0, aB0, aM0] at hO
     refine af0 hO ?_
     refine rS0 ?_
     refine endP ?_
     rw [j10, <- hv]
     exact rT3 @LxS.after.eq_1 @LxS.after.eq_2 @LxS.obs.eq_1
   ·rw [if_neg h92] at hv
    have n92 : ¬ (c.toNat : Int) = 92 := fun h => h92 (UInt8.toNat_inj.1 (by exact_mod_cast h))
    refine rS5 hc' n34 n92 c32 c126 ?_
    refine aa0 [.l 2 0] ?_
    simp
    have hO := cY0 67 c hT67
    try simp [LxS.obs, LxS.obs', Tok.ac0, ae0, ad0, aB0, aM0] at hO
    refine ab0 93 hO ?_
    refine rS0 ?_
    refine .of (j + 1, [c]) ⟨by dsimp only; omega, by dsimp only; omega, by simp, hv⟩ (by dsimp only; omega) (Wk.rens (.l 93 0) (.l 999 0) rfl (by simp) (by simp [renF, nC0]) (by simp [renF, bO0]))
  ·rw [List.drop_of_length_le (by omega), ij0] at hv
   refine rS0 ?_
   rw [j10, <- hv]
   refine aa0 [.e 0, .e 1] ?_
   simp
   have hO := aV0 ⟨s, i, out⟩ i 30
   try simp [LxS.obs, LxS.obs', Tok.ac0, ae0, ad0, aB0, aM0] at hO
   refine af0 hO ?_
   refine rS0 ?_
   refine endP ?_
   exact rT3 @LxS.after.eq_1 @LxS.after.eq_2 @LxS.obs.eq_1
 | cons b l =>
  simp only [nC0]
  rcases key with ⟨hl, c, hc, hd⟩ | rfl
  ·rw [hd, ij0.eq_def] at hv
   simp only at hv
   have hc' : s.data[j]? = some c := by simpa [sB] using hc
   have hbl : (b :: l).length <= j := hacc
   by_cases h34 : c = 34
   ·subst h34
    refine rS1 hc' ?_
    refine aa0 [.l 2 0, .l 999 0] ?_
    simp
    have hO := il0 67 (b :: l)
    try simp [LxS.obs, LxS.obs', Tok.ac0, ae0, ad0, aB0, aM0] at hO
    refine ab0 28 hO ?_
    refine rS0 ?_
    rw [if_pos rfl] at hv
    by_cases hlong : (b :: l).length > 256
    ·rw [if_pos hlong] at hv
     have hlong' : 256 < l.length + 1 := hlong
     refine rS1 hlong' ?_
     refine aa0 [.e 0, .e 1] ?_
     simp
     have hO := aV0 ⟨s, i, out⟩ i 3
     try simp [LxS.obs, LxS.obs', Tok.ac0, ae0, ad0, aB0, aM0] at hO
     refine af0 hO ?_
     refine rS0 ?_
     refine endP ?_
     rw [j10, <- hv]
     exact rT3 @LxS.after.eq_1 @LxS.after.eq_2 @LxS.obs.eq_1
    rw [if_neg hlong] at hv
    have hlong' : ¬ 256 < l.length + 1 := hlong
    refine rS1 hlong' ?_
    refine aa0 [.l 2 0, .l 999 0] ?_
    simp
    have hO := fQ0 67 (b :: l) (by simp)
    try simp [LxS.obs, LxS.obs', Tok.ac0, ae0, ad0, aB0, aM0] at hO
    refine ab0 37 hO ?_
    refine rS0 ?_
    rw [j10, <- hv]
    by_cases hfull : 4096 <= out.length
    ·refine aa0 [.e 0, .e 1] ?_
     simp
     have hO := dE0 ⟨s, i, out⟩ ⟨3, bS (b :: l), 0, 0⟩ (j + 1) hfull (by dsimp only; omega)
     try simp [LxS.obs, LxS.obs', Tok.ac0, ae0, ad0, aB0, aM0] at hO
     refine af0 hO ?_
     refine rS0 ?_
     refine endP ?_
     exact rT4 @LxS.after.eq_1 @LxS.after.eq_2 @LxS.obs.eq_1 hfull
    ·refine aa0 [.e 0, .e 1] ?_
     simp
     have hO := eJ0 ⟨s, i, out⟩ ⟨3, bS (b :: l), 0, 0⟩ (j + 1) (by dsimp only; omega)
     try simp [LxS.obs, LxS.obs', Tok.ac0, ae0, ad0, aB0, aM0] at hO
     refine ab0 41 hO ?_
     refine rS0 ?_
     refine ax0 [.l 41 0] ?_
     exact rT5 @LxS.after.eq_1 @LxS.after.eq_2 @LxS.obs'.eq_1 hfull @Tok.ac0
   rw [if_neg h34] at hv
   have n34 : ¬ (c.toNat : Int) = 34 := fun h => h34 (UInt8.toNat_inj.1 (by exact_mod_cast h))
   by_cases hctl : c < 32 \/ 126 < c
   ·rw [if_pos hctl] at hv
    have hctl' : (c.toNat : Int) < 32 \/ 126 < (c.toNat : Int) := by
     rcases hctl with h | h
     ·left; have := UInt8.lt_iff_toNat_lt.1 h; simp at this; omega
     ·right; have := UInt8.lt_iff_toNat_lt.1 h; simp at this; omega
    refine rS2 hc' n34 ?_
    refine ⟨fun h => ?_, fun h => ?_⟩
    all_goals first | (exfalso; omega) | skip
    all_goals
     refine aa0 [.e 0, .e 1] ?_
     simp
     have hO := aV0 ⟨s, i, out⟩ j 30
     try simp [LxS.obs, LxS.obs', Tok.ac0, ae0, ad0, aB0, aM0] at hO
     refine af0 hO ?_
     refine rS0 ?_
     refine endP ?_
     rw [j10, <- hv]
     exact rT3 @LxS.after.eq_1 @LxS.after.eq_2 @LxS.obs.eq_1
   rw [if_neg hctl] at hv
   have c32 : ¬ (c.toNat : Int) < 32 := fun h => hctl (.inl (UInt8.lt_iff_toNat_lt.2 (by simp; omega)))
   have c126 : ¬ 126 < (c.toNat : Int) := fun h => hctl (.inr (UInt8.lt_iff_toNat_lt.2 (by simp; omega)))
   by_cases h92 : c = 92
   ·subst h92
    rw [if_pos rfl] at hv
    rcases Nat.lt_or_ge (j + 1) s.size with hl2 | hl2
    ·obtain ⟨d, hd1, hd2⟩ : ∃ d, s.data[j + 1]? = some d /\ (sB s).drop (j + 1) = d :: (sB s).drop (j + 2) :=
      ⟨(sB s)[j + 1]'(by omega), by simp [sB], List.drop_eq_getElem_cons (by omega)⟩
     rw [hd2] at hv
     simp only at hv
     by_cases hq : d = 34 \/ d = 92
     ·rw [if_pos hq] at hv
      rcases hq with rfl | rfl
      ·refine rS2 hc' hd1 ?_
       refine aa0 [.l 2 0, .l 999 0] ?_
       simp
       have hO := cO0 67 (b :: l) 34 hT67 (by omega)
       try simp [LxS.obs, LxS.obs', Tok.ac0, ae0, ad0, aB0, aM0] at hO
       refine ab0 93 hO ?_
       refine rS0 ?_
       refine .of (j + 2, b :: l ++ [34]) ⟨by dsimp only; omega, by dsimp only; omega, by simp at hbl ⊢; omega, hv⟩ (by dsimp only; omega) (Wk.rens (.l 93 0) (.l 999 0) rfl (by simp) (by simp [renF, nC0]; omega) (by simp [renF, bO0]))
      ·refine rS2 hc' hd1 ?_
       refine aa0 [.l 2 0, .l 999 0] ?_
       simp
       have hO := cO0 67 (b :: l) 92 hT67 (by omega)
       try simp [LxS.obs, LxS.obs', Tok.ac0, ae0, ad0, aB0, aM0] at hO
       refine ab0 93 hO ?_
       refine rS0 ?_
       refine .of (j + 2, b :: l ++ [92]) ⟨by dsimp only; omega, by dsimp only; omega, by simp at hbl ⊢; omega, hv⟩ (by dsimp only; omega) (Wk.rens (.l 93 0) (.l 999 0) rfl (by simp) (by simp [renF, nC0]; omega) (by simp [renF, bO0]))
     ·rw [if_neg hq] at hv
      have q34 : ¬ (d.toNat : Int) = 34 := fun h => hq (.inl (UInt8.toNat_inj.1 (by exact_mod_cast h)))
      have q92 : ¬ (d.toNat : Int) = 92 := fun h => hq (.inr (UInt8.toNat_inj.1 (by exact_mod_cast h)))
      refine rS4 hc' hd1 q34 q92 ?_
      refine aa0 [.e 0, .e 1] ?_
      simp
      have hO := aV0 ⟨s, i, out⟩ j 30
      try simp [LxS.obs, LxS.obs', Tok.ac0, ae0, ad0, aB0, aM0] at hO
      refine af0 hO ?_
      refine rS0 ?_
      refine endP ?_
      rw [j10, <- hv]
      exact rT3 @LxS.after.eq_1 @LxS.after.eq_2 @LxS.obs.eq_1
    ·rw [List.drop_of_length_le (by omega)] at hv
     simp only at hv
     refine rS1 hc' ?_
     refine aa0 [.e 0, .e 1] ?_
     simp
     have hO := aV0 ⟨s, i, out⟩ j 30
     try simp [LxS.obs, LxS.obs', Tok.ac0, ae0, ad0, aB0, aM0] at hO
     refine af0 hO ?_
     refine rS0 ?_
     refine endP ?_
     rw [j10, <- hv]
     exact rT3 @LxS.after.eq_1 @LxS.after.eq_2 @LxS.obs.eq_1
   ·rw [if_neg h92] at hv
    have n92 : ¬ (c.toNat : Int) = 92 := fun h => h92 (UInt8.toNat_inj.1 (by exact_mod_cast h))
    refine rS5 hc' n34 n92 c32 c126 ?_
    refine aa0 [.l 2 0, .l 999 0] ?_
    simp
    have hO := cO0 67 (b :: l) c hT67 (by omega)
    try simp [LxS.obs, LxS.obs', Tok.ac0, ae0, ad0, aB0, aM0] at hO
    refine ab0 93 hO ?_
    refine rS0 ?_
    refine .of (j + 1, b :: l ++ [c]) ⟨by dsimp only; omega, by dsimp only; omega, by simp at hbl ⊢; omega, hv⟩ (by dsimp only; omega) (Wk.rens (.l 93 0) (.l 999 0) rfl (by simp) (by simp [renF, nC0]) (by simp [renF, bO0]))
  ·rw [List.drop_of_length_le (by omega), ij0] at hv
   refine rS0 ?_
   rw [j10, <- hv]
   refine aa0 [.e 0, .e 1] ?_
   simp
   have hO := aV0 ⟨s, i, out⟩ i 30
   try simp [LxS.obs, LxS.obs', Tok.ac0, ae0, ad0, aB0, aM0] at hO
   refine af0 hO ?_
   refine rS0 ?_
   refine endP ?_
   exact rT3 @LxS.after.eq_1 @LxS.after.eq_2 @LxS.obs.eq_1
theorem mf0 : Ret prog kO0 [] (.lst (cq0.map fun m => [vS (bS m)])) := by
 refine cm0 nH0 (by simp) ?_
 exact rT2 @j40.eq_1 @cq0.eq_1
theorem LxS.mE0 (x : LxS) (R : LxR (Int × Bs × Int × Nat)) : (∃ a e, x.after R = .pan (rk0 a e) x.obs) \/ ∃ y : LxS, x.after R = .ret (.tup []) y.obs' := by
 unfold LxS.after
 split
 ·exact .inl ⟨_, _, rfl⟩
 ·split
  ·exact .inl ⟨_, _, rfl⟩
  ·exact .inr ⟨_, rfl⟩
theorem oU0 {s : Bs} {i : Nat} {c : UInt8} (h : s[i]? = some c) : ly0 s i =
  if av0.contains c then
   (if bg0 (av0 ++ am0) s i - i > 16 then .bad i 3 else .ok (1, (s.drop i).take (bg0 (av0 ++ am0) s i - i), 0, bg0 (av0 ++ am0) s i))
  else if am0.contains c then numR s i
  else if c = 34 then j10 s i
  else if cq0.contains ((s.drop i).take 2) then .ok (4, (s.drop i).take 2, 0, i + 2)
  else if c50.contains c then .ok (4, [c], 0, i + 1)
  else .bad i 30 := by
 unfold ly0
 rw [h]
 simp only [numR, h, Option.some.injEq]
 rfl
theorem sM0 {m l : Bs} (hm : m.length = 2) : m.isPrefixOf l = decide (l.take 2 = m) := by
 rw [Bool.eq_iff_iff, decide_eq_true_eq, List.isPrefixOf_iff_prefix, List.prefix_iff_eq_take, hm]
 exact ⟨Eq.symm, Eq.symm⟩
theorem k30 : ∀ m ∈ cq0, m.length = 2 := by decide
set_option maxHeartbeats 1600000 in
theorem pU0 (x : LxS) (i : Nat) (hx : x.at_ = i) (hi : i < x.s.size) (hs : x.s.size < 2 ^ 39) (ho : x.out.length <= 4096) :
  J prog iL0 [.bp (.e 0) 0] x.obs (· = x.after (ly0 (sB x.s) i)) := by
 obtain ⟨s, a, out⟩ := x
 dsimp only at hx hi hs ho ⊢
 subst hx
 have hz : s.size = (sB s).length := rfl
 have hget : (sB s)[i]? = some (sB s)[i] := List.getElem?_eq_getElem (by omega)
 generalize hc : (sB s)[i] = c at *
 have hc' : s.data[i]? = some c := by simpa [sB] using hget
 refine at0 me0 (by simp [LxS.obs]) ?_
 have hone := oU0 hget
 refine rS5 @in0.eq_1 @LxS.obs.eq_1 @hpE.eq_1 @hpE.eq_2 hc' ?_
 refine ak0 ?_; simp; refine ah0 (aL0 ⟨⟨av0⟩⟩ c) (by simp) ?_
 rw [show sB ⟨⟨av0⟩⟩ = av0 from rfl]
 have hm1 := b80 av0 c
 by_cases h1 : av0.contains c = true
 ·rw [if_pos h1] at hone
  have hI := hm1.2 h1
  refine rS1 hI ?_
  refine aa0 [.e 0, .e 1] ?_
  simp
  have hO := iU0 ⟨s, i, out⟩ ⟨⟨av0 ++ am0⟩⟩ i rfl (by dsimp only; omega)
  try simp [LxS.obs, LxS.obs', Tok.ac0] at hO
  refine ab0 20 hO ?_
  rw [show sB ⟨⟨av0 ++ am0⟩⟩ = av0 ++ am0 from rfl]
  have hge := jB0 (av0 ++ am0) (sB s) i
  have hle : bg0 (av0 ++ am0) (sB s) i <= s.size := jC0 (by omega)
  generalize hp : bg0 (av0 ++ am0) (sB s) i = p at *
  by_cases h16 : p - i > 16
  ·rw [if_pos h16] at hone
   rw [hone]
   have h16' : (16 : Int) < (p : Int) - i := by omega
   refine rS1 h16' ?_
   refine aa0 [.e 0, .e 1] ?_
   simp
   have hO := aV0 ⟨s, i, out⟩ i 3
   try simp [LxS.obs, LxS.obs', Tok.ac0] at hO
   refine af0 hO ?_
   refine rS0 ?_
   refine endP ?_
   exact rT3 @LxS.after.eq_1 @LxS.after.eq_2 @LxS.obs.eq_1
  ·rw [if_neg h16] at hone
   rw [hone]
   have h16' : ¬ (16 : Int) < (p : Int) - i := by omega
   refine rS1 h16' ?_
   by_cases hfull : 4096 <= out.length
   ·refine aa0 [.e 0, .e 1] ?_
    simp
    have hO := dE0 ⟨s, i, out⟩ ⟨1, s.extract i p, 0, 0⟩ p hfull (by dsimp only; omega)
    try simp [LxS.obs, LxS.obs', Tok.ac0] at hO
    refine af0 hO ?_
    refine rS0 ?_
    refine endP ?_
    exact rT4 @LxS.after.eq_1 @LxS.after.eq_2 @LxS.obs.eq_1 hfull
   ·refine aa0 [.e 0, .e 1] ?_
    simp
    have hO := eJ0 ⟨s, i, out⟩ ⟨1, s.extract i p, 0, 0⟩ p (by dsimp only; omega)
    try simp [LxS.obs, LxS.obs', Tok.ac0] at hO
    refine ab0 47 hO ?_
    refine rS0 ?_
    refine ax0 [.l 47 0] ?_
    have hx : bS (((sB s).drop i).take (p - i)) = s.extract i p := by rw [<- dO0]
    exact rT6 @LxS.after.eq_1 @LxS.after.eq_2 @LxS.obs'.eq_1 hfull @Tok.ac0 hx
 rw [if_neg h1] at hone
 have hI : ¬ 0 <= Lib.indexByte av0 c := fun h => h1 (hm1.1 h)
 refine rS1 hI ?_
 refine ak0 ?_; simp; refine ah0 (aL0 ⟨⟨am0⟩⟩ c) (by simp) ?_
 rw [show sB ⟨⟨am0⟩⟩ = am0 from rfl]
 have hm2 := b80 am0 c
 by_cases h2 : am0.contains c = true
 ·rw [if_pos h2] at hone
  have hI2 := hm2.2 h2
  have hJ := m70 ⟨s, i, out⟩ i rfl hi (by dsimp only; omega) ho
  rw [hone]
  dsimp only at hJ
  rcases LxS.mE0 ⟨s, i, out⟩ (numR (sB s) i) with ⟨a, e, hR⟩ | ⟨y, hR⟩
  ·rw [hR] at hJ ⊢
   refine rS1 hI2 ?_
   refine aa0 [.e 0, .e 1] ?_
   simp
   have hO := hJ
   try simp [LxS.obs, LxS.obs', Tok.ac0] at hO
   refine af0 hO ?_
   refine rS0 ?_
   refine endP ?_
   exact rT1 @LxS.obs.eq_1
  ·rw [hR] at hJ ⊢
   refine rS1 hI2 ?_
   refine aa0 [.e 0, .e 1] ?_
   simp
   have hO := hJ
   try simp [LxS.obs, LxS.obs', Tok.ac0] at hO
   refine ab0 53 hO ?_
   refine rS0 ?_
   refine ax0 [.l 53 0] ?_
   exact rT1 @LxS.obs'.eq_1
 rw [if_neg h2] at hone
 have hI2 : ¬ 0 <= Lib.indexByte am0 c := fun h => h2 (hm2.1 h)
 by_cases h3 : c = 34
 ·subst h3
  rw [if_pos rfl] at hone
  have hJ := oS0 ⟨s, i, out⟩ i rfl hi hs ho
  rw [hone]
  dsimp only at hJ
  rcases LxS.mE0 ⟨s, i, out⟩ (j10 (sB s) i) with ⟨a, e, hR⟩ | ⟨y, hR⟩
  ·rw [hR] at hJ
   rw [hR]
   refine rS1 hI2 ?_
   refine aa0 [.e 0, .e 1] ?_
   simp
   have hO := hJ
   try simp [LxS.obs, LxS.obs', Tok.ac0] at hO
   refine af0 hO ?_
   refine rS0 ?_
   refine endP ?_
   exact rT1 @LxS.obs.eq_1
  ·rw [hR] at hJ
   rw [hR]
   refine rS1 hI2 ?_
   refine aa0 [.e 0, .e 1] ?_
   simp
   have hO := hJ
   try simp [LxS.obs, LxS.obs', Tok.ac0] at hO
   refine ab0 58 hO ?_
   refine rS0 ?_
   refine ax0 [.l 58 0] ?_
   exact rT1 @LxS.obs'.eq_1
 rw [if_neg h3] at hone
 have n34 : ¬ (c.toNat : Int) = 34 := fun h => h3 (UInt8.toNat_inj.1 (by exact_mod_cast h))
 refine rS2 hI2 n34 ?_
 refine ak0 ?_; simp; refine ah0 (mf0) (by simp) ?_
 refine rS0 ?_
 have hgo : ∀ (k : Nat), k < 6 -> ∃ m, cq0[k]? = some m /\ m.length = 2 := fun k hk =>
  ⟨cq0[k]'hk, List.getElem?_eq_getElem hk, k30 _ (List.getElem_mem _)⟩
 refine aO0 (fun y : Nat => 6 - y) (fun y => [(61, vI y), (60, vI 6), (59, .lst (cq0.map fun m => [vS (bS m)])), (2, vU c), (0, .bp (.e 0) 0)])
  (fun _ => [(.e 0, .box [vS s, vI i, .arr (.e 1) 0 out.length]), (.e 1, .row bW0 4 true (out.map Tok.cells))])
  (fun y => y <= 6 /\ ∀ k, k < y -> ∀ m, cq0[k]? = some m -> ((sB s).drop i).take 2 ≠ m) 0 ⟨by omega, fun k hk => by omega⟩ (Wk.subs (by simp [cq0]) (by simp)) ?_
 rintro k ⟨hk6, hno⟩
 by_cases hk : k < 6
 ·obtain ⟨m, hm, hm2⟩ := hgo k hk
  have hml : (List.map (fun m => [vS (bS m)]) cq0)[k]? = some [vS (bS m)] := by rw [List.getElem?_map, hm]; rfl
  have hk' : (k : Int) < 6 := by omega
  refine rS1 hk' ?_
  rw [aP0 hml]
  refine rS0 ?_
  have hpre : (sB (bS m)).isPrefixOf (sB (s.extract i s.size)) = decide (((sB s).drop i).take 2 = m) := by
   have hdl : ((sB s).drop i).take (s.size - i) = (sB s).drop i := List.take_of_length_le (by simp)
   rw [dO0, hdl, show sB (bS m) = m from rfl, sM0 hm2]
  refine ak0 ?_; simp; refine ah0 (iB0 (s.extract i s.size) (bS m)) (by simp) ?_
  rw [hpre]
  by_cases he : ((sB s).drop i).take 2 = m
  ·have hcon : cq0.contains (((sB s).drop i).take 2) = true := by
    rw [he]; exact List.contains_iff_mem.2 (List.mem_of_getElem? hm)
   rw [if_pos hcon, he] at hone
   rw [hone]
   refine rS1 he ?_
   by_cases hfull : 4096 <= out.length
   ·refine aa0 [.e 0, .e 1] ?_
    simp
    have hO := dE0 ⟨s, i, out⟩ ⟨4, bS m, 0, 0⟩ (i + 2) hfull (by dsimp only; omega)
    try simp [LxS.obs, LxS.obs', Tok.ac0] at hO
    refine af0 hO ?_
    refine rS0 ?_
    refine endP ?_
    exact rT4 @LxS.after.eq_1 @LxS.after.eq_2 @LxS.obs.eq_1 hfull
   ·refine aa0 [.e 0, .e 1] ?_
    simp
    have hO := eJ0 ⟨s, i, out⟩ ⟨4, bS m, 0, 0⟩ (i + 2) (by dsimp only; omega)
    try simp [LxS.obs, LxS.obs', Tok.ac0] at hO
    refine ab0 84 hO ?_
    refine rS0 ?_
    refine ax0 [.l 84 0] ?_
    exact rT5 @LxS.after.eq_1 @LxS.after.eq_2 @LxS.obs'.eq_1 hfull @Tok.ac0
  ·refine rS1 he ?_
   refine .of (k + 1) ⟨by omega, fun q hq m' hm' => ?_⟩ (by omega) (Wk.subs (by simp) (by simp))
   rcases Nat.lt_or_ge q k with h | h
   ·exact hno q h m' hm'
   ·have : q = k := by omega
    subst this
    rw [hm] at hm'; injection hm' with hm'; subst hm'; exact he
 ·have hcon : cq0.contains (((sB s).drop i).take 2) = false := by
   rw [<- Bool.not_eq_true, List.contains_iff_mem]
   intro h
   obtain ⟨q, hq, hq2⟩ := List.getElem_of_mem h
   have hq6 : q < 6 := hq
   exact hno q (by omega) _ (List.getElem?_eq_getElem hq) hq2.symm
  have hk' : ¬ (k : Int) < 6 := by omega
  rw [if_neg (by rw [hcon]; simp)] at hone
  refine rS1 hk' ?_
  refine ak0 ?_; simp; refine ah0 (aL0 ⟨⟨c50⟩⟩ c) (by simp) ?_
  rw [show sB ⟨⟨c50⟩⟩ = c50 from rfl]
  have hm3 := b80 c50 c
  by_cases h4 : c50.contains c = true
  ·rw [if_pos h4] at hone
   rw [hone]
   have hI4 : ¬ Lib.indexByte c50 c < 0 := by have := hm3.2 h4; omega
   have hc128 : (c.toNat : Int) < 128 := by
    simp [c50] at h4
    rcases h4 with h | h | h | h | h | h | h | h | h | h | h | h | h | h | h | h | h | h | h <;> subst h <;> decide
   have hchr : chr (c.toNat : Int) = bS [c] := by simp [chr]
   refine rS3 hI4 hc128 hchr ?_
   by_cases hfull : 4096 <= out.length
   ·refine aa0 [.e 0, .e 1] ?_
    simp
    have hO := dE0 ⟨s, i, out⟩ ⟨4, bS [c], 0, 0⟩ (i + 1) hfull (by dsimp only; omega)
    try simp [LxS.obs, LxS.obs', Tok.ac0] at hO
    refine af0 hO ?_
    refine rS0 ?_
    refine endP ?_
    exact rT4 @LxS.after.eq_1 @LxS.after.eq_2 @LxS.obs.eq_1 hfull
   ·refine aa0 [.e 0, .e 1] ?_
    simp
    have hO := eJ0 ⟨s, i, out⟩ ⟨4, bS [c], 0, 0⟩ (i + 1) (by dsimp only; omega)
    try simp [LxS.obs, LxS.obs', Tok.ac0] at hO
    refine ab0 104 hO ?_
    refine rS0 ?_
    refine bX0 [.l 104 0] ?_
    exact rT5 @LxS.after.eq_1 @LxS.after.eq_2 @LxS.obs'.eq_1 hfull @Tok.ac0
  ·rw [if_neg h4] at hone
   rw [hone]
   have hI4 : Lib.indexByte c50 c < 0 := by
    have : ¬ 0 <= Lib.indexByte c50 c := fun h => h4 (hm3.1 h)
    omega
   refine rS1 hI4 ?_
   refine aa0 [.e 0, .e 1] ?_
   simp
   have hO := aV0 ⟨s, i, out⟩ i 30
   try simp [LxS.obs, LxS.obs', Tok.ac0] at hO
   refine af0 hO ?_
   refine rS0 ?_
   refine endP ?_
   exact rT3 @LxS.after.eq_1 @LxS.after.eq_2 @LxS.obs.eq_1
attribute [local irreducible] vcF dfrS dEnd kN0 dJ JD
def LxS.obs0 (x : LxS) : List Ob := [.box [vS x.s, vI x.at_, .nil]]
theorem qT0 (x : LxS) (set : ByteArray) (i : Nat) (hx : x.at_ = i) (hs : x.s.size < 2 ^ 40) :
  J prog gb0 [.bp (.e 0) 0, vS set] x.obs0 (· = .ret (vI (bg0 (sB set) (sB x.s) i)) x.obs0) := by
 have hz : x.s.size = (sB x.s).length := rfl
 refine at0 is0 (by simp [LxS.obs0]) ?_
 refine rS5 @fa0.eq_1 @LxS.obs0.eq_1 @hpE.eq_1 @hpE.eq_2 hx ?_
 refine aO0 (fun j : Nat => x.s.size - j) (fun j => [(5, vI j), (1, vS set), (0, .bp (.e 0) 0)])
  (fun _ => [(.e 0, .box [vS x.s, vI x.at_, .nil])])
  (fun j => bg0 (sB set) (sB x.s) j = bg0 (sB set) (sB x.s) i) i rfl (Wk.subs (by simp) (by simp [hx])) ?_
 intro j hj
 refine rS0 ?_
 refine ⟨fun hl => ?_, fun hl => ?_⟩
 ·have hl' : j < (sB x.s).length := by rw [<- hz]; exact hl
  refine ⟨(sB x.s)[j], by simp [sB], ?_⟩
  refine ak0 ?_; simp; refine ah0 (aL0 set (sB x.s)[j]) (by simp) ?_
  refine rS0 ?_
  refine ⟨fun hc => ?_, fun hc => ?_⟩
  ·have hm := (b80 _ _).1 hc
   refine .of (j + 1) (by rw [<- hj, o90 hl' hm]) (by omega) (Wk.subs (by simp) (by simp [hx]))
  ·have hm : (sB set).contains (sB x.s)[j] = false := by
    rw [<- Bool.not_eq_true]; intro h; exact hc ((b80 _ _).2 h)
   rw [qi0 hl' hm] at hj
   refine ax0 [] ?_
   exact rT2 hj hx
 ·rw [qh0 (by omega)] at hj
  refine ax0 [] ?_
  exact rT2 hj hx
theorem oR0 (x : LxS) (i : Nat) (hx : x.at_ = i) (hi : i <= x.s.size) (hs : x.s.size < 2 ^ 40) :
  J prog eC0 [.bp (.e 0) 0] x.obs0 (· = .ret (.tup []) ({ x with at_ := aS0 (sB x.s) (x.s.size + 1) i } : LxS).obs0) := by
 have hz : x.s.size = (sB x.s).length := rfl
 refine at0 gR0 (by simp [LxS.obs0]) ?_
 refine rS4 @dT0.eq_1 @LxS.obs0.eq_1 @hpE.eq_1 @hpE.eq_2 ?_
 refine aO0 (fun y : Nat × Nat => y.1) (fun y => [(0, .bp (.e 0) 0)])
  (fun y => [(.e 0, .box [vS x.s, vI y.2, .nil])])
  (fun y => y.2 <= x.s.size /\ x.s.size - y.2 < y.1 /\ aS0 (sB x.s) y.1 y.2 = aS0 (sB x.s) (x.s.size + 1) i) (x.s.size + 1, i) ⟨hi, by show x.s.size - i < x.s.size + 1; omega, rfl⟩ (Wk.subs (by simp) (by simp [hx])) ?_
 rintro ⟨f, j⟩ ⟨hj, hf, hb⟩
 dsimp only at hj hf hb
 obtain ⟨f, rfl⟩ : ∃ f', f = f' + 1 := ⟨f - 1, by omega⟩
 have hge := jB0 be0 (sB x.s) j
 have hle : bg0 be0 (sB x.s) j <= x.s.size := jC0 hj
 refine rS0 ?_
 refine aa0 [.e 0] ?_
 simp
 have hO := qT0 { x with at_ := j } ⟨⟨[32, 10, 9]⟩⟩ j rfl hs
 try simp [LxS.obs, LxS.obs', LxS.obs0, Tok.ac0] at hO
 refine ab0 5 hO ?_
 rw [show sB ⟨⟨[32, 10, 9]⟩⟩ = be0 from rfl]
 generalize hp : bg0 be0 (sB x.s) j = p at *
 refine rS0 ?_
 refine ⟨fun hl => ?_, fun hl => ?_⟩
 ·rw [gH0 (by rw [hp, List.getElem?_eq_none (by omega)]; simp), hp] at hb
  refine ax0 [] ?_
  simp +contextual (maxSteps := 2000000) (disch := omega) [-Int.not_lt, -Int.not_le, -Nat.not_lt, -Nat.not_le, sx, <- hb]
 have hl' : p < (sB x.s).length := by omega
 refine ⟨(sB x.s)[p], by simp [sB], fun hc => ?_, fun hc => ?_⟩
 ·rw [gH0 (by rw [hp, List.getElem?_eq_getElem hl']; intro h; apply hc; injection h with h; rw [h]; rfl), hp] at hb
  refine ax0 [] ?_
  simp +contextual (maxSteps := 2000000) (disch := omega) [-Int.not_lt, -Int.not_le, -Nat.not_lt, -Nat.not_le, sx, <- hb]
 have hc' : (sB x.s)[p] = 35 := by
  apply UInt8.toNat_inj.1; exact_mod_cast hc
 refine ak0 ?_; simp; refine ah0 (aL0 (x.s.extract p x.s.size) 10) (by simp) ?_
 rw [dO0, List.take_of_length_le (by simp)]
 have hlt := iS0 ((sB x.s).drop p) 10
 have h0 : 0 < (Lib.indexByte ((sB x.s).drop p) 10) \/ (Lib.indexByte ((sB x.s).drop p) 10) < 0 := by
  rw [List.drop_eq_getElem_cons hl', hc']
  have hge := Lib.indexByte_ge ((sB x.s).drop (p + 1)) 10
  unfold Lib.indexByte
  by_cases h5 : Lib.indexByte ((sB x.s).drop (p + 1)) 10 = -1
  ·rw [h5]; right; decide
  ·left
   have h6 : (Lib.indexByte ((sB x.s).drop (p + 1)) 10 == -1) = false := by simpa using h5
   rw [h6, show ((35 : UInt8) == 10) = false from rfl]
   simp only [Bool.false_eq_true, if_false]; omega
 rw [lQ0 (by rw [hp, List.getElem?_eq_getElem hl', hc']), hp] at hb
 generalize hq : Lib.indexByte ((sB x.s).drop p) 10 = q at *
 simp only [List.length_drop] at hlt
 refine rS0 ?_
 refine ⟨fun hq0 => ?_, fun hq0 => ?_⟩
 ·obtain ⟨m, rfl⟩ := Int.eq_ofNat_of_zero_le hq0
  rw [if_neg (by omega)] at hb
  refine .of (f, p + m) ⟨by dsimp only; omega, by dsimp only; omega, hb⟩ (by simp) (Wk.subs (by simp) (by simp))
 ·rw [if_pos (by omega)] at hb
  refine .of (f, x.s.size) ⟨by dsimp only; omega, by dsimp only; omega, hb⟩ (by simp) (Wk.subs (by simp) (by simp))
theorem nt0 {i0 : Nat} : ∀ {l : Bs} {j : Nat} {acc t : Bs} {k : Nat}, ij0 i0 l j acc = .ok (t, k) -> j < k /\ k <= j + l.length
 | [], j, acc, t, k, h => by simp [ij0] at h
 | c :: l, j, acc, t, k, h => by
  rw [ij0.eq_def] at h
  simp only at h
  split at h
  ·split at h
   ·cases h
   ·injection h with h; injection h with h1 h2; subst h2; simp only [List.length_cons]; omega
  split at h
  ·cases h
  split at h
  ·split at h
   ·cases h
   ·rename_i d l'
    split at h
    ·have := nt0 h; simp only [List.length_cons]; omega
    ·cases h
  ·have := nt0 h; simp only [List.length_cons]; omega
theorem pZ0 {s : Bs} {i : Nat} {k : Int} {t : Bs} {n : Int} {j : Nat} (h : ly0 s i = .ok (k, t, n, j)) : i < j /\ j <= s.length := by
 cases hg : s[i]? with
 | none => unfold ly0 at h; rw [hg] at h; cases h
 | some c =>
 have hi : i < s.length := (List.getElem?_eq_some_iff.1 hg).1
 have hc : s[i] = c := (List.getElem?_eq_some_iff.1 hg).2
 rw [oU0 hg] at h
 have run : ∀ set : Bs, set.contains c = true -> i < bg0 set s i /\ bg0 set s i <= s.length := fun set hs => by
  have h1 := o90 (set := set) hi (by rw [hc]; exact hs)
  have h2 := jB0 set s (i + 1)
  exact ⟨by omega, jC0 (by omega)⟩
 split at h
 ·rename_i h1
  split at h
  ·cases h
  ·injection h with h; simp only [Prod.mk.injEq] at h
   obtain ⟨_, _, _, rfl⟩ := h
   refine run _ ?_
   rw [List.contains_iff_mem, List.mem_append]
   exact .inl (List.contains_iff_mem.1 h1)
 split at h
 ·rename_i h1
  unfold numR at h
  split at h
  ·cases h
  ·split at h
   ·cases h
   ·injection h with h; simp only [Prod.mk.injEq] at h
    obtain ⟨_, _, _, rfl⟩ := h
    exact run _ h1
 split at h
 ·unfold j10 at h
  split at h
  ·cases h
  ·rename_i t' j' ht
   injection h with h; simp only [Prod.mk.injEq] at h
   obtain ⟨_, _, _, rfl⟩ := h
   have := nt0 ht
   simp only [List.length_drop] at this
   omega
 split at h
 ·rename_i h1
  injection h with h; simp only [Prod.mk.injEq] at h
  obtain ⟨_, _, _, rfl⟩ := h
  have := k30 _ (List.contains_iff_mem.1 h1)
  simp at this
  omega
 split at h
 ·injection h with h; simp only [Prod.mk.injEq] at h
  obtain ⟨_, _, _, rfl⟩ := h
  omega
 ·cases h
theorem jq0 (s : Bs) : ∀ (f i : Nat), i <= s.length -> i <= aS0 s f i /\ aS0 s f i <= s.length
 | 0, i, h => ⟨by simp [aS0], by simpa [aS0] using h⟩
 | f + 1, i, h => by
  have h1 := jB0 be0 s i
  have h2 := jC0 (set := be0) h
  rw [aS0]
  split
  ·have h4 := iS0 (s.drop (bg0 be0 s i)) 10
   simp only [List.length_drop] at h4
   split
   ·have h3 := jq0 s f s.length (Nat.le_refl _); omega
   ·have h3 := jq0 s f (bg0 be0 s i + (Lib.indexByte (s.drop (bg0 be0 s i)) 10).toNat) (by omega); omega
  ·omega
def lexV : LxR (List Tok) -> V
 | .ok ts => .tup [.lst (ts.map Tok.cells), vI 0, vI 0]
 | .bad a e => .tup [.lst [], vI a, vI e]
theorem nK0 (n : Nat) (a e : Int) (xs : List (List V)) :
  JD prog true km0 [.bp (.e 0) 0, .bp (.e 1) 0, .bp (.e 2) 0] [.box [.arr (.e 3) 0 n], .box [vI a], .box [vI e], .row bW0 4 true xs] none (· = .ret (.tup []) [.box [.arr (.e 3) 0 n], .box [vI a], .box [vI e], .row bW0 4 true xs]) := by
 refine JR_of l30 (by simp) (by simp) ?_
 refine rS5 @iE0.eq_1 @hpE.eq_1 @hpE.eq_2 @pvV.eq_1 @pvV.eq_2 ?_
 refine bX0 [] ?_
 exact rT0
theorem g90 (a e : Int) : JD prog true km0 [.bp (.e 0) 0, .bp (.e 1) 0, .bp (.e 2) 0] [.box [.nil], .box [vI 0], .box [vI 0]] (some (rk0 a e)) (· = .ret (.tup []) [.box [.nil], .box [vI a], .box [vI e]]) := by
 refine JR_of l30 (by simp) (by simp) ?_
 refine rS5 @iE0.eq_1 @hpE.eq_1 @hpE.eq_2 @pvV.eq_1 @pvV.eq_2 ?_
 refine bX0 [] ?_
 exact rT0
abbrev lexE (a b c : Id) (s : ByteArray) : Env := [(0, vS s), (2, .bp a 0), (3, .bp b 0), (4, .bp c 0)]
abbrev lexH (a b c : Id) : Hp := [(a, .box [.nil]), (b, .box [vI 0]), (c, .box [vI 0])]
theorem pY0 {s : Bs} {f i : Nat} {out : List Tok} (h : s.length <= aS0 s (s.length + 1) i) :
  jW0 s (f + 1) i out = if out.length >= 4096 then .bad (aS0 s (s.length + 1) i) 36 else .ok (out ++ [⟨5, bS [], 0, aS0 s (s.length + 1) i⟩]) := by
 rw [jW0, if_pos h]
theorem pX0 {s : Bs} {f i : Nat} {out : List Tok} (h : ¬ s.length <= aS0 s (s.length + 1) i) {a e : Int} (h1 : ly0 s (aS0 s (s.length + 1) i) = .bad a e) : jW0 s (f + 1) i out = .bad a e := by
 rw [jW0, if_neg h, h1]
theorem rt0 {s : Bs} {f i : Nat} {out : List Tok} (h : ¬ s.length <= aS0 s (s.length + 1) i) {k : Int} {t : Bs} {n : Int} {j : Nat} (h1 : ly0 s (aS0 s (s.length + 1) i) = .ok (k, t, n, j)) :
  jW0 s (f + 1) i out = if out.length >= 4096 then .bad (aS0 s (s.length + 1) i) 36 else jW0 s f j (out ++ [⟨k, bS t, n, aS0 s (s.length + 1) i⟩]) := by
 rw [jW0, if_neg h, h1]
set_option maxHeartbeats 1600000 in
theorem pT0 (s : ByteArray) (hs : s.size < 2 ^ 39) : Ret prog pC0 [vS s] (lexV (hM0 (sB s))) := by
 have hz : s.size = (sB s).length := rfl
 refine J_dfr true si0 (by simp) ?_
 by_cases hlong : 16384 < s.size
 ·have hl : hM0 (sB s) = .bad 16384 3 := by rw [hM0, if_pos (by omega)]
  have hlong' : (16384 : Int) < s.size := by omega
  rw [hl]
  refine rS6 @lq0.eq_1 @fm0 @fl0 hlong' @hpE.eq_1 @hpE.eq_2 ?_
  refine ax0 [] ?_
  exact rT2 @lexV.eq_1 @lexV.eq_2
 have hl : hM0 (sB s) = jW0 (sB s) (s.size + 1) 0 [] := by rw [hM0, if_neg (by omega)]; rfl
 have hlong' : ¬ (16384 : Int) < s.size := by omega
 rw [hl]
 refine rS6 @lq0.eq_1 @fm0 @fl0 hlong' @hpE.eq_1 @hpE.eq_2 ?_
 refine oD0 rfl rfl (.trans (.ren (.l 2 0) 0 (by simp) (by simp) (E := lexE (.e 0) (.l 3 0) (.l 4 0) s) (h := lexH (.e 0) (.l 3 0) (.l 4 0)) (cs' := [.bp (.e 0) 0, .bp (.l 3 0) 0, .bp (.l 4 0) 0]) (by simp [renF]) (by simp [renF, bO0]) (by simp [renF]))
  (.trans (.ren (.l 3 0) 1 (by simp) (by simp) (E := lexE (.e 0) (.e 1) (.l 4 0) s) (h := lexH (.e 0) (.e 1) (.l 4 0)) (cs' := [.bp (.e 0) 0, .bp (.e 1) 0, .bp (.l 4 0) 0]) (by simp [renF]) (by simp [renF, bO0]) (by simp [renF]))
  (.ren (.l 4 0) 2 (by simp) (by simp) (E := lexE (.e 0) (.e 1) (.e 2) s) (h := lexH (.e 0) (.e 1) (.e 2)) (cs' := [.bp (.e 0) 0, .bp (.e 1) 0, .bp (.e 2) 0]) (by simp [renF]) (by simp [renF, bO0]) (by simp [renF])))) rfl ?_
 refine rS0 ?_
 refine aa0 [.l 12 0] ?_
 simp
 have hO := oR0 ⟨s, 0, []⟩ 0 rfl (by simp) (by dsimp only; omega)
 try simp [LxS.obs, LxS.obs', LxS.obs0, Tok.ac0] at hO
 refine ab0 14 hO ?_
 refine rS0 ?_
 refine aO0 (fun y : Nat × Nat × List Tok => y.1) (fun y => [(5, .bp (.l 12 0) 0), (0, vS s), (2, .bp (.e 0) 0), (3, .bp (.e 1) 0), (4, .bp (.e 2) 0)])
  (fun y => [(.l 12 0, .box [vS s, vI (aS0 (sB s) (s.size + 1) y.2.1), .arr (.l 999 0) 0 y.2.2.length]), (.l 999 0, .row bW0 4 true (y.2.2.map Tok.cells)), (.e 0, .box [.nil]), (.e 1, .box [vI 0]), (.e 2, .box [vI 0])])
  (fun y => y.2.1 <= s.size /\ s.size - y.2.1 < y.1 /\ y.2.2.length <= 4096 /\ jW0 (sB s) y.1 y.2.1 y.2.2 = jW0 (sB s) (s.size + 1) 0 []) (s.size + 1, 0, [])
  ⟨by simp, by simp, by simp, rfl⟩ (Wk.trans (Wk.subs (by simp) (by simp)) (Wk.rowB (b := .l 12 0) (id := .l 999 0) (off := 2) (ty := bW0) (sz := 4) rfl rfl (by simp) (by simp))) ?_
 rintro ⟨f, i, out⟩ ⟨hi, hf, ho, hv⟩
 dsimp only at hi hf ho hv
 obtain ⟨f, rfl⟩ : ∃ f', f = f' + 1 := ⟨f - 1, by omega⟩
 have hb := jq0 (sB s) (s.size + 1) i (by omega)
 rw [<- hz] at hb
 generalize hB : aS0 (sB s) (s.size + 1) i = b at *
 by_cases hbl : b < s.size
 ·have hbl' : (b : Int) < s.size := by omega
  have hno : ¬ (sB s).length <= aS0 (sB s) ((sB s).length + 1) i := by rw [<- hz, hB]; omega
  have hJ := pU0 ⟨s, b, out⟩ b rfl hbl hs ho
  dsimp only at hJ
  cases hR : ly0 (sB s) b with
  | bad a e =>
   rw [hR] at hJ
   rw [pX0 hno (by rw [<- hz, hB]; exact hR)] at hv
   rw [<- hv]
   simp only [LxS.after] at hJ
   refine rS1 hbl' ?_
   refine aa0 [.l 12 0, .l 999 0] ?_
   simp
   have hO := hJ
   try simp [LxS.obs, LxS.obs', LxS.obs0, Tok.ac0] at hO
   refine af0 hO ?_
   refine rS0 ?_
   refine mn0 (by simp) _ _ (Wk.refl _ _) (d00 [.e 0, .e 1, .e 2] (by simp) ?_)
   simp
   refine lW0 (g90 a e) (by simp) ?_
   simp
   refine ax0 [] ?_
   simp +contextual (maxSteps := 2000000) (disch := omega) [-Int.not_lt, -Int.not_le, -Nat.not_lt, -Nat.not_le, sx, lexV, stab, V.allE, V.kK0, lexE, List.filter_cons, Id.isE]
  | ok q =>
   obtain ⟨k, t, n, j⟩ := q
   have hadv := pZ0 hR
   rw [hR] at hJ
   rw [rt0 hno (by rw [<- hz, hB]; exact hR), <- hz, hB] at hv
   by_cases hfull : 4096 <= out.length
   ·rw [if_pos hfull] at hv
    rw [<- hv]
    simp only [LxS.after, if_pos hfull] at hJ
    refine rS1 hbl' ?_
    refine aa0 [.l 12 0, .l 999 0] ?_
    simp
    have hO := hJ
    try simp [LxS.obs, LxS.obs', LxS.obs0, Tok.ac0] at hO
    refine af0 hO ?_
    refine rS0 ?_
    refine mn0 (by simp) _ _ (Wk.refl _ _) (d00 [.e 0, .e 1, .e 2] (by simp) ?_)
    simp
    refine lW0 (g90 b 36) (by simp) ?_
    simp
    refine ax0 [] ?_
    simp +contextual (maxSteps := 2000000) (disch := omega) [-Int.not_lt, -Int.not_le, -Nat.not_lt, -Nat.not_le, sx, lexV, stab, V.allE, V.kK0, lexE, List.filter_cons, Id.isE]
   ·rw [if_neg (by omega)] at hv
    simp only [LxS.after, if_neg hfull] at hJ
    refine rS1 hbl' ?_
    refine aa0 [.l 12 0, .l 999 0] ?_
    simp
    have hO := hJ
    try simp [LxS.obs, LxS.obs', LxS.obs0, Tok.ac0] at hO
    refine ab0 25 hO ?_
    refine rS0 ?_
    refine aa0 [.l 12 0, .l 25 0] ?_
    simp
    have hO := nN0 ⟨s, j, out ++ [⟨k, bS t, n, b⟩]⟩ j rfl (by dsimp only; omega) (by dsimp only; omega)
    try simp [LxS.obs, LxS.obs', LxS.obs0, Tok.ac0] at hO
    refine ab0 23 hO ?_
    refine rS0 ?_
    refine .of (f, j, out ++ [⟨k, bS t, n, b⟩]) ⟨by dsimp only; omega, by dsimp only; omega, by simp; omega, hv⟩ (by dsimp only; omega) (Wk.rens (.l 25 0) (.l 999 0) rfl (by simp) (by simp [renF]) (by simp [renF, bO0, Tok.ac0]))
 ·have hbl' : ¬ (b : Int) < s.size := by omega
  have hyes : (sB s).length <= aS0 (sB s) ((sB s).length + 1) i := by rw [<- hz, hB]; omega
  rw [pY0 hyes, <- hz, hB] at hv
  refine rS1 hbl' ?_
  by_cases hfull : 4096 <= out.length
  ·rw [if_pos hfull] at hv
   rw [<- hv]
   refine aa0 [.l 12 0, .l 999 0] ?_
   simp
   have hO := dE0 ⟨s, b, out⟩ ⟨5, bS [], 0, 0⟩ b hfull (by dsimp only; omega)
   try simp [LxS.obs, LxS.obs', LxS.obs0, Tok.ac0] at hO
   refine af0 hO ?_
   refine rS0 ?_
   refine mn0 (by simp) _ _ (Wk.refl _ _) (d00 [.e 0, .e 1, .e 2] (by simp) ?_)
   simp
   refine lW0 (g90 b 36) (by simp) ?_
   simp
   refine ax0 [] ?_
   simp +contextual (maxSteps := 2000000) (disch := omega) [-Int.not_lt, -Int.not_le, -Nat.not_lt, -Nat.not_le, sx, lexV, stab, V.allE, V.kK0, lexE, List.filter_cons, Id.isE]
  ·rw [if_neg hfull] at hv
   rw [<- hv]
   refine aa0 [.l 12 0, .l 999 0] ?_
   simp
   have hO := eJ0 ⟨s, b, out⟩ ⟨5, bS [], 0, 0⟩ b (by dsimp only; omega)
   try simp [LxS.obs, LxS.obs', LxS.obs0, Tok.ac0] at hO
   refine ab0 32 hO ?_
   refine rS0 ?_
   refine mo0 _ _ (Wk.refl _ _) (d00 [.e 0, .e 1, .e 2, .l 32 0] (by simp) ?_)
   simp
   refine lW0 (nK0 (out.length + 1) 0 0 _) (by simp) ?_
   simp
   refine ax0 [] ?_
   exact rT3 @lexV.eq_1 @lexV.eq_2 @Tok.ac0
def nW0 : LxR (List Tok) -> Prop
 | .ok ts => ∃ o b, ts = o ++ [⟨5, bS [], 0, b⟩] /\ o.length < 4096
 | .bad _ e => e ≠ 0 /\ e ≠ -1
theorem nu0 {i0 : Nat} : ∀ {l : Bs} {j : Nat} {acc : Bs} {a e : Int}, ij0 i0 l j acc = .bad a e -> e ≠ 0 /\ e ≠ -1
 | [], j, acc, a, e, h => by simp [ij0] at h; omega
 | c :: l, j, acc, a, e, h => by
  rw [ij0.eq_def] at h
  simp only at h
  split at h
  ·split at h
   ·injection h with h1 h2; omega
   ·cases h
  split at h
  ·injection h with h1 h2; omega
  split at h
  ·split at h
   ·injection h with h1 h2; omega
   ·split at h
    ·exact nu0 h
    ·injection h with h1 h2; omega
  ·exact nu0 h
theorem lxOne_bad {s : Bs} {i : Nat} (hi : i < s.length) {a e : Int} (h : ly0 s i = .bad a e) : e ≠ 0 /\ e ≠ -1 := by
 rw [oU0 (List.getElem?_eq_getElem hi)] at h
 split at h
 ·split at h
  ·injection h with h1 h2; omega
  ·cases h
 split at h
 ·unfold numR at h
  split at h
  ·injection h with h1 h2; omega
  ·split at h
   ·injection h with h1 h2; omega
   ·cases h
 split at h
 ·unfold j10 at h
  split at h
  ·rename_i ht; injection h with h1 h2; subst h2; exact nu0 ht
  ·cases h
 split at h
 ·cases h
 split at h
 ·cases h
 ·injection h with h1 h2; omega
theorem n90 {s : Bs} : ∀ (f i : Nat) (out : List Tok), i <= s.length -> s.length - i < f -> out.length <= 4096 -> nW0 (jW0 s f i out)
 | 0, i, out, _, h, _ => by omega
 | f + 1, i, out, hi, hf, ho => by
  have hb := jq0 s (s.length + 1) i hi
  by_cases h : s.length <= aS0 s (s.length + 1) i
  ·rw [pY0 h]
   split
   ·exact ⟨by decide, by decide⟩
   ·exact ⟨out, _, rfl, by omega⟩
  ·cases h1 : ly0 s (aS0 s (s.length + 1) i) with
   | bad a e => rw [pX0 h h1]; exact lxOne_bad (by omega) h1
   | ok q =>
    obtain ⟨k, t, n, j⟩ := q
    have := pZ0 h1
    rw [rt0 h h1]
    split
    ·exact ⟨by decide, by decide⟩
    ·exact n90 f j _ (by omega) (by omega) (by simp; omega)
theorem ku0 (s : Bs) : nW0 (hM0 s) := by
 unfold hM0
 split
 ·exact ⟨by decide, by decide⟩
 ·exact n90 _ _ _ (by omega) (by omega) (by simp)
theorem nW0.tend {o : List Tok} {b : Int} : TEnd (o ++ [⟨5, bS [], 0, b⟩]) := by
 intro n hn hk
 have h1 : n < o.length + 1 := by simpa using hn
 rcases Nat.lt_or_ge n o.length with h | h
 ·simp; omega
 ·exfalso
  have : n = o.length := by omega
  subst this
  apply hk
  unfold tk
  rw [List.getD_eq_getElem?_getD, List.getElem?_append_right (Nat.le_refl _)]
  simp
def i00 : LxR Prg -> V
 | .ok p => .tup [.agg p.cells, vI 0, vI 0]
 | .bad a e => .tup [.agg [vI 0, .lst [], .lst []], vI a, vI e]
theorem k90 (p : Prg) (a e : Int) :
  JD prog true gc0 [.bp (.e 0) 0, .bp (.e 1) 0, .bp (.e 2) 0] [.box p.cells, .box [vI a], .box [vI e]] none (· = .ret (.tup []) [.box p.cells, .box [vI a], .box [vI e]]) := by
 refine JR_of it0 (by simp) (by simp) ?_
 refine rS5 @fb0.eq_1 @hpE.eq_1 @hpE.eq_2 @pvV.eq_1 @pvV.eq_2 ?_
 refine bX0 [] ?_
 exact rT0
theorem la0 (a e : Int) : JD prog true gc0 [.bp (.e 0) 0, .bp (.e 1) 0, .bp (.e 2) 0] [.box [vI 0, .nil, .nil], .box [vI 0], .box [vI 0]] (some (.ifc li0 (.agg [vI a, vI e]))) (· = .ret (.tup []) [.box [vI 0, .nil, .nil], .box [vI a], .box [vI e]]) := by
 refine JR_of it0 (by simp) (by simp) ?_
 refine rS5 @fb0.eq_1 @hpE.eq_1 @hpE.eq_2 @pvV.eq_1 @pvV.eq_2 ?_
 refine bX0 [] ?_
 exact rT0
@[simp] theorem lexV_pure (R : LxR (List Tok)) : (lexV R).pure = true := by cases R <;> simp [lexV]
abbrev prsE (a b c : Id) (ts : List Tok) : Env := [(5, .lst (ts.map Tok.cells)), (2, .bp a 0), (3, .bp b 0), (4, .bp c 0)]
abbrev prsH (a b c : Id) : Hp := [(a, .box [vI 0, .nil, .nil]), (b, .box [vI 0]), (c, .box [vI 0])]
theorem iu0 (s : ByteArray) (hs : s.size < 2 ^ 39) (F : Nat) (hlive : (iZ0 (sB s) F).live) : Ret prog h30 [vS s] (i00 (iZ0 (sB s) F)) := by
 generalize hw : iZ0 (sB s) F = R at *
 unfold iZ0 at hw
 have hgood := ku0 (sB s)
 refine J_dfr true nI0 (by simp) ?_
 refine rS5 @j90.eq_1 @fm0 @fl0 @hpE.eq_1 @hpE.eq_2 ?_
 refine ak0 ?_; simp; refine ah0 (pT0 s hs) (by simp) ?_
 cases hx : hM0 (sB s) with
 | bad a e =>
  rw [hx] at hw hgood
  simp only at hw
  subst hw
  have he : ¬ e = 0 := hgood.1
  refine rS5 @lexV.eq_1 @lexV.eq_2 he @fm0 @fl0 ?_
  refine ax0 [] ?_
  exact rT2 @i00.eq_1 @i00.eq_2
 | ok ts =>
 rw [hx] at hw hgood
 simp only at hw
 obtain ⟨o, b, rfl, ho⟩ := hgood
 have hE : TEnd (o ++ [⟨5, bS [], 0, b⟩]) := nW0.tend
 have hn : 0 < (o ++ [(⟨5, bS [], 0, b⟩ : Tok)]).length := by simp
 have hl : (o ++ [(⟨5, bS [], 0, b⟩ : Tok)]).length < 2 ^ 40 := by simp; omega
 generalize o ++ [(⟨5, bS [], 0, b⟩ : Tok)] = ts at *
 have hlv : (lE0 ts F).live := by
  cases hp : lE0 ts F with
  | ok q => trivial
  | bad n e => rw [hp] at hw; subst hw; exact hlive
 have hJ := ld0 hE hl F hn hlv
 refine rS4 @lexV.eq_1 @lexV.eq_2 @fm0 @fl0 ?_
 refine oD0 rfl rfl (.trans (.ren (.l 2 0) 0 (by simp) (by simp) (E := prsE (.e 0) (.l 3 0) (.l 4 0) ts) (h := prsH (.e 0) (.l 3 0) (.l 4 0)) (cs' := [.bp (.e 0) 0, .bp (.l 3 0) 0, .bp (.l 4 0) 0]) (by simp [renF]) (by simp [renF, bO0]) (by simp [renF]))
  (.trans (.ren (.l 3 0) 1 (by simp) (by simp) (E := prsE (.e 0) (.e 1) (.l 4 0) ts) (h := prsH (.e 0) (.e 1) (.l 4 0)) (cs' := [.bp (.e 0) 0, .bp (.e 1) 0, .bp (.l 4 0) 0]) (by simp [renF]) (by simp [renF, bO0]) (by simp [renF]))
  (.ren (.l 4 0) 2 (by simp) (by simp) (E := prsE (.e 0) (.e 1) (.e 2) ts) (h := prsH (.e 0) (.e 1) (.e 2)) (cs' := [.bp (.e 0) 0, .bp (.e 1) 0, .bp (.e 2) 0]) (by simp [renF]) (by simp [renF, bO0]) (by simp [renF])))) rfl ?_
 refine rS0 ?_
 rcases hp : lE0 ts F with ⟨p, m⟩ | ⟨a, e⟩
 ·rw [hp] at hJ hw
  simp only [pAns] at hJ hw
  subst hw
  refine aa0 [.l 21 0] ?_
  simp
  have hO := hJ
  try simp [pObs] at hO
  refine ab0 23 hO ?_
  refine rS0 ?_
  refine mo0 _ _ (Wk.refl _ _) (d00 [.e 0, .e 1, .e 2] (by simp) ?_)
  simp
  refine lW0 (k90 p 0 0) (by simp) ?_
  simp
  refine ax0 [] ?_
  exact rT2 @i00.eq_1 @i00.eq_2
 ·rw [hp] at hJ hw
  simp only [pAns] at hJ hw
  subst hw
  refine aa0 [.l 21 0] ?_
  simp
  have hO := hJ
  try simp [pObs] at hO
  refine af0 hO ?_
  refine rS0 ?_
  refine mn0 (by simp) _ _ (Wk.refl _ _) (d00 [.e 0, .e 1, .e 2] (by simp) ?_)
  simp
  refine lW0 (la0 _ _) (by simp) ?_
  simp
  refine ax0 [] ?_
  simp +contextual (maxSteps := 2000000) (disch := omega) [-Int.not_lt, -Int.not_le, -Nat.not_lt, -Nat.not_le, sx, i00, stab, V.allE, V.kK0, prsE, List.filter_cons, Id.isE]
@[simp] theorem elemK_c0 {e : List V} {l : List (List V)} {K : List V -> Prop} : fZ0 (e :: l) 0 K = K e := aP0 rfl
@[simp] theorem elemK_c1 {e e' : List V} {l : List (List V)} {K : List V -> Prop} : fZ0 (e :: e' :: l) 1 K = K e' := aP0 rfl
theorem list_spec (xs : List Exq) (ts : List Bs) (hlen : ts.length = xs.length) (hx : xs.length < 2 ^ 30) (h : ∀ i (hi : i < xs.length), db0 xs[i] (ts[i]'(by omega))) (bs : Bs) (hl : bs.length + (sepB ts).length < 2 ^ 40) :
  J prog gl0 [.bp (.e 0) 0, .lst (xs.map Exq.cells)] (ae0 69 bs) (· = .ret (.tup []) (ad0 69 (bs ++ sepB ts))) := by
 unfold sepB at *
 generalize hM : (ts.mapIdx fun i t => (if i = 0 then [] else [44, 32]) ++ t) = M at *
 have hMl : M.length = xs.length := by rw [<- hM]; simp [hlen]
 have hMg : ∀ i (hi : i < xs.length), M[i]'(by omega) = (if i = 0 then [] else [44, 32]) ++ ts[i]'(by omega) := fun i hi => by simp [<- hM]
 rw [<- b50, hMl] at hl ⊢
 refine at0 jS0 (by simp [ae0]) ?_
 refine rS4 @fw0.eq_1 @ae0.eq_1 @hpE.eq_1 @hpE.eq_2 ?_
 refine aN0 xs.length (fun i => [(8, vI i), (7, vI xs.length), (6, .lst (xs.map Exq.cells)), (0, .bp (.e 0) 0)])
  (fun i => [(.e 0, .box [.self (.e 0) 69, .arr (.l 999 0) 0 (bs ++ aZ0 M i).length]), (.l 999 0, .row 5 1 true ((bs ++ aZ0 M i).map ao0))])
  (Wk.rens (.e 1) (.l 999 0) rfl (by simp) (by simp [renF, bj0]) (by simp [renF, bO0, bj0])) ?_
 intro i hi
 by_cases hlt : i < xs.length
 ·have hlt' : (i : Int) < xs.length := by omega
  have hle := h60 M (i + 1)
  rw [<- b50, hMl] at hle
  have hsucc := eE0 (L := M) (i := i) (by omega)
  rw [hMg i hlt] at hsucc
  have hP := h i hlt
  by_cases h0 : i = 0
  ·subst h0
   rw [if_pos rfl, List.nil_append, bj0, List.nil_append] at hsucc
   rw [hsucc] at hle
   refine rS1 hlt' ?_
   refine aa0 [.e 0, .l 999 0] ?_
   simp
   have hO := hP (bs ++ aZ0 M 0) (by rw [bj0, List.append_nil]; omega)
   try simp [ae0, ad0] at hO
   refine ab0 20 hO ?_
   refine rS0 ?_
   refine .of hlt (Wk.rens (.l 20 0) (.l 999 0) rfl (by simp) (by simp [renF, hsucc, bj0]) (by simp [renF, bO0, hsucc, bj0]))
  ·rw [if_neg h0] at hsucc
   rw [hsucc] at hle
   simp only [List.length_append, List.length_cons, List.length_nil] at hle
   have h0' : (0 : Int) < i := by omega
   refine rS2 hlt' h0' ?_
   refine aa0 [.e 0, .l 999 0] ?_
   simp
   have hO := as0 (bs ++ aZ0 M i) [[44, 32]] (by simp; omega) (by simp)
   try simp [ae0, ad0] at hO
   refine ab0 17 hO ?_
   refine rS0 ?_
   refine aa0 [.e 0, .l 17 0] ?_
   simp
   have hO := hP (bs ++ aZ0 M i ++ [44, 32]) (by simp; omega)
   try simp [ae0, ad0] at hO
   refine ab0 20 hO ?_
   refine rS0 ?_
   refine .of hlt (Wk.rens (.l 20 0) (.l 999 0) rfl (by simp) (by simp [renF, hsucc]) (by simp [renF, bO0, hsucc]))
 ·have hge' : ¬ (i : Int) < xs.length := by omega
  have : i = xs.length := by omega
  subst this
  refine rS1 hge' ?_
  refine bX0 [.l 999 0] ?_
  exact rT1 @ad0.eq_1
theorem lL0 : ∀ {l : List Exq} {ts : List Bs}, shL l = some ts -> ts.length = l.length /\ ∀ i (hi : i < l.length) (hi2 : i < ts.length), shE l[i] = some ts[i]
 | [], ts, h => by simp [shL] at h; subst h; exact ⟨rfl, fun i hi => by simp at hi⟩
 | x :: l, ts, h => by
  rw [shL] at h
  split at h
  ·rename_i a b h1 h2
   injection h with h; subst h
   obtain ⟨g1, g2⟩ := lL0 h2
   refine ⟨by simp [g1], fun i hi hi2 => ?_⟩
   cases i with
   | zero => exact h1
   | succ i => exact g2 i (by simpa using hi) (by simpa using hi2)
  ·cases h
theorem q00 : ∀ {l : List Exq}, plL l = true -> ∀ x ∈ l, plE x = true
 | [], _, x, hx => by simp at hx
 | y :: l, h, x, hx => by
  rw [plL, Bool.and_eq_true] at h
  rcases List.mem_cons.1 hx with rfl | hx
  ·exact h.1
  ·exact q00 h.2 x hx
theorem p50 {s : Bs} (h : c70 s = true) : s.length <= 16 := by
 unfold c70 at h
 simp only [Bool.and_eq_true, decide_eq_true_eq] at h
 exact h.1.1.1.2
theorem ha0 {s : Bs} (h : c70 s = true) : J prog eD0 [vS (bS s)] [] (· = .ret (vS (bS s)) []) := by
 have hJ := nU0 s (by have := p50 h; omega)
 rw [h] at hJ; exact hJ
theorem pv0 (s : ByteArray) : bS (sB s) = s := rfl
set_option maxHeartbeats 3200000 in
theorem expr_int (num : Int) (op : Int) (text : ByteArray) (slot : Int) (type : ByteArray) (at_ : Int) (h0 : 0 <= num) (h1 : num < 9223372036854775808) : db0 (.mk 1 op num text slot type [] at_) (numB num) := by
 intro bs hl
 have hi : sq0 num = bS (numB num) := rfl
 refine at0 aF0 (by simp [ae0]) ?_
 rw [Exq.V, Exq.ac0]
 simp +contextual (maxSteps := 2000000) (disch := omega) [-Int.not_lt, -Int.not_le, -Nat.not_lt, -Nat.not_le, sx, aC0, ae0, hpE, Exq.kind, Exq.op, Exq.num, Exq.text, Exq.slot, Exq.type, Exq.args, Exq.at_]
 refine aa0 [] ?_
 simp
 have hO := an0
 try simp [ae0, ad0] at hO
 refine ab0 23 hO ?_
 refine rS0 ?_
 refine aa0 [] ?_
 simp
 have hO := an0
 try simp [ae0, ad0] at hO
 refine ab0 32 hO ?_
 refine rS0 ?_
 refine ak0 ?_; simp; refine ah0 (hR0 num (by omega) h1) (by simp) ?_
 rw [hi]
 refine rS0 ?_
 refine aa0 [.e 0, .e 1] ?_
 simp
 have hO := as0 bs [numB num] (by simp; omega) (by simp)
 try simp [ae0, ad0] at hO
 refine ab0 38 hO ?_
 refine rS0 ?_
 refine bX0 [.l 38 0] ?_
 exact rT1 @ad0.eq_1
set_option maxHeartbeats 3200000 in
theorem sd0 (op : Int) (text : ByteArray) (slot : Int) (type : ByteArray) (at_ : Int) : db0 (.mk 2 op 0 text slot type [] at_) eI0 := by
 intro bs hl
 refine at0 aF0 (by simp [ae0]) ?_
 rw [Exq.V, Exq.ac0]
 simp +contextual (maxSteps := 2000000) (disch := omega) [-Int.not_lt, -Int.not_le, -Nat.not_lt, -Nat.not_le, sx, aC0, ae0, hpE, Exq.kind, Exq.op, Exq.num, Exq.text, Exq.slot, Exq.type, Exq.args, Exq.at_]
 refine aa0 [] ?_
 simp
 have hO := an0
 try simp [ae0, ad0] at hO
 refine ab0 23 hO ?_
 refine rS0 ?_
 refine aa0 [] ?_
 simp
 have hO := an0
 try simp [ae0, ad0] at hO
 refine ab0 49 hO ?_
 refine rS0 ?_
 refine ak0 ?_; simp; refine ah0 (iD0 false) (by simp) ?_
 refine rS0 ?_
 refine aa0 [.e 0, .e 1] ?_
 simp
 have hO := as0 bs [eI0] (by simp; omega) (by simp)
 try simp [ae0, ad0] at hO
 refine ab0 56 hO ?_
 refine rS0 ?_
 refine bX0 [.l 56 0] ?_
 exact rT1 @ad0.eq_1
set_option maxHeartbeats 3200000 in
theorem se0 (op : Int) (text : ByteArray) (slot : Int) (type : ByteArray) (at_ : Int) : db0 (.mk 2 op 1 text slot type [] at_) hJ0 := by
 intro bs hl
 refine at0 aF0 (by simp [ae0]) ?_
 rw [Exq.V, Exq.ac0]
 simp +contextual (maxSteps := 2000000) (disch := omega) [-Int.not_lt, -Int.not_le, -Nat.not_lt, -Nat.not_le, sx, aC0, ae0, hpE, Exq.kind, Exq.op, Exq.num, Exq.text, Exq.slot, Exq.type, Exq.args, Exq.at_]
 refine aa0 [] ?_
 simp
 have hO := an0
 try simp [ae0, ad0] at hO
 refine ab0 23 hO ?_
 refine rS0 ?_
 refine aa0 [] ?_
 simp
 have hO := an0
 try simp [ae0, ad0] at hO
 refine ab0 49 hO ?_
 refine rS0 ?_
 refine ak0 ?_; simp; refine ah0 (iD0 true) (by simp) ?_
 refine rS0 ?_
 refine aa0 [.e 0, .e 1] ?_
 simp
 have hO := as0 bs [hJ0] (by simp; omega) (by simp)
 try simp [ae0, ad0] at hO
 refine ab0 56 hO ?_
 refine rS0 ?_
 refine bX0 [.l 56 0] ?_
 exact rT1 @ad0.eq_1
set_option maxHeartbeats 3200000 in
theorem expr_name (num : Int) (op : Int) (text : ByteArray) (slot : Int) (type : ByteArray) (at_ : Int) (h : c70 (sB text) = true) : db0 (.mk 6 op num text slot type [] at_) (sB text) := by
 intro bs hl
 have hN := ha0 h
 rw [pv0] at hN
 refine at0 aF0 (by simp [ae0]) ?_
 rw [Exq.V, Exq.ac0]
 simp +contextual (maxSteps := 2000000) (disch := omega) [-Int.not_lt, -Int.not_le, -Nat.not_lt, -Nat.not_le, sx, aC0, ae0, hpE, Exq.kind, Exq.op, Exq.num, Exq.text, Exq.slot, Exq.type, Exq.args, Exq.at_]
 refine aa0 [] ?_
 simp
 have hO := an0
 try simp [ae0, ad0] at hO
 refine ab0 23 hO ?_
 refine rS0 ?_
 refine aa0 [] ?_
 simp
 have hO := hN
 try simp [ae0, ad0] at hO
 refine ab0 74 hO ?_
 refine rS0 ?_
 refine aa0 [.e 0, .e 1] ?_
 simp
 have hO := as0 bs [sB text] (by simp only [List.flatten_cons, List.flatten_nil, List.append_nil]; omega) (by simp)
 try simp [ae0, ad0] at hO
 refine ab0 76 hO ?_
 refine rS0 ?_
 refine bX0 [.l 76 0] ?_
 exact rT1 @ad0.eq_1
set_option maxHeartbeats 3200000 in
theorem expr_call (num : Int) (op : Int) (text : ByteArray) (slot : Int) (type : ByteArray) (at_ : Int) (xs : List Exq) (ts : List Bs) (h : c70 (sB text) = true) (hlen : ts.length = xs.length) (hx : xs.length < 2 ^ 30) (hp : ∀ i (hi : i < xs.length), db0 xs[i] (ts[i]'(by omega))) :
  db0 (.mk 7 op num text slot type xs at_) (sB text ++ [40] ++ sepB ts ++ [41]) := by
 intro bs hl
 simp only [List.length_append, List.length_cons, List.length_nil] at hl
 have hN := ha0 h
 rw [pv0] at hN
 refine at0 aF0 (by simp [ae0]) ?_
 rw [Exq.V, Exq.ac0]
 simp +contextual (maxSteps := 2000000) (disch := omega) [-Int.not_lt, -Int.not_le, -Nat.not_lt, -Nat.not_le, sx, aC0, ae0, hpE, Exq.kind, Exq.op, Exq.num, Exq.text, Exq.slot, Exq.type, Exq.args, Exq.at_]
 refine aa0 [] ?_
 simp
 have hO := an0
 try simp [ae0, ad0] at hO
 refine ab0 23 hO ?_
 refine rS0 ?_
 refine aa0 [] ?_
 simp
 have hO := hN
 try simp [ae0, ad0] at hO
 refine ab0 82 hO ?_
 refine rS0 ?_
 refine aa0 [.e 0, .e 1] ?_
 simp
 have hO := as0 bs [sB text, [40]] (by simp only [List.flatten_cons, List.flatten_nil, List.append_nil, List.length_append, List.length_cons, List.length_nil]; omega) (by simp)
 try simp [ae0, ad0] at hO
 refine ab0 84 hO ?_
 refine rS0 ?_
 refine aa0 [.e 0, .l 84 0] ?_
 simp
 have hO := list_spec xs ts hlen hx hp (bs ++ [sB text, [40]].flatten) (by simp only [List.flatten_cons, List.flatten_nil, List.append_nil, List.length_append, List.length_cons, List.length_nil]; omega)
 try simp [ae0, ad0] at hO
 refine ab0 88 hO ?_
 refine rS0 ?_
 refine aa0 [.e 0, .l 88 0] ?_
 simp
 have hO := as0 (bs ++ [sB text, [40]].flatten ++ sepB ts) [[41]] (by simp only [List.flatten_cons, List.flatten_nil, List.append_nil, List.length_append, List.length_cons, List.length_nil]; omega) (by simp)
 try simp [ae0, ad0] at hO
 refine ab0 91 hO ?_
 refine rS0 ?_
 refine bX0 [.l 91 0] ?_
 exact rT1 @ad0.eq_1
set_option maxHeartbeats 3200000 in
theorem expr_at (num : Int) (op : Int) (text : ByteArray) (slot : Int) (type : ByteArray) (at_ : Int) (x y : Exq) (a b : Bs) (hx : db0 x a) (hy : db0 y b) : db0 (.mk 12 op num text slot type [x, y] at_) (within a (oO0 x) ++ [91] ++ b ++ [93]) := by
 intro bs hl
 simp only [List.length_append, List.length_cons, List.length_nil] at hl
 generalize hb : oO0 x = q at *
 refine at0 aF0 (by simp [ae0]) ?_
 rw [Exq.V, Exq.ac0]
 simp +contextual (maxSteps := 2000000) (disch := omega) [-Int.not_lt, -Int.not_le, -Nat.not_lt, -Nat.not_le, sx, aC0, ae0, hpE, Exq.kind, Exq.op, Exq.num, Exq.text, Exq.slot, Exq.type, Exq.args, Exq.at_]
 refine aa0 [] ?_
 simp
 have hO := an0
 try simp [ae0, ad0] at hO
 refine ab0 23 hO ?_
 have cs : (x.kind = 15 /\ q = true) \/ (¬ x.kind = 15 /\ x.kind = 13 /\ q = true) \/ (¬ x.kind = 15 /\ ¬ x.kind = 13 /\ x.kind = 14 /\ q = true) \/ (¬ x.kind = 15 /\ ¬ x.kind = 13 /\ ¬ x.kind = 14 /\ q = false) := by
  subst hb
  by_cases c1 : x.kind = 15
  ·exact .inl ⟨c1, by simp [oO0, c1]⟩
  by_cases c2 : x.kind = 13
  ·exact .inr (.inl ⟨c1, c2, by simp [oO0, c2]⟩)
  by_cases c3 : x.kind = 14
  ·exact .inr (.inr (.inl ⟨c1, c2, c3, by simp [oO0, c3]⟩))
  ·exact .inr (.inr (.inr ⟨c1, c2, c3, by simp [oO0, c1, c2, c3]⟩))
 rcases cs with ⟨c1, rfl⟩ | ⟨c1, c2, rfl⟩ | ⟨c1, c2, c3, rfl⟩ | ⟨c1, c2, c3, rfl⟩
 ·skip
  refine rS1 c1 ?_
  refine aa0 [.e 0, .e 1] ?_
  simp
  have hO := cb0 hx true bs (by omega)
  try simp [ae0, ad0] at hO
  refine ab0 114 hO ?_
  refine rS0 ?_
  refine aa0 [.e 0, .l 114 0] ?_
  simp
  have hO := as0 (bs ++ within a true) [[91]] (by simp only [List.flatten_cons, List.flatten_nil, List.append_nil, List.length_append, List.length_cons, List.length_nil]; omega) (by simp)
  try simp [ae0, ad0] at hO
  refine ab0 117 hO ?_
  refine rS0 ?_
  refine aa0 [.e 0, .l 117 0] ?_
  simp
  have hO := hy (bs ++ within a true ++ [[91]].flatten) (by simp only [List.flatten_cons, List.flatten_nil, List.append_nil, List.length_append, List.length_cons, List.length_nil]; omega)
  try simp [ae0, ad0] at hO
  refine ab0 123 hO ?_
  refine rS0 ?_
  refine aa0 [.e 0, .l 123 0] ?_
  simp
  have hO := as0 (bs ++ within a true ++ [[91]].flatten ++ b) [[93]] (by simp only [List.flatten_cons, List.flatten_nil, List.append_nil, List.length_append, List.length_cons, List.length_nil]; omega) (by simp)
  try simp [ae0, ad0] at hO
  refine ab0 126 hO ?_
  refine rS0 ?_
  refine bX0 [.l 126 0] ?_
  exact rT1 @ad0.eq_1
 ·skip
  refine rS2 c1 c2 ?_
  refine aa0 [.e 0, .e 1] ?_
  simp
  have hO := cb0 hx true bs (by omega)
  try simp [ae0, ad0] at hO
  refine ab0 114 hO ?_
  refine rS0 ?_
  refine aa0 [.e 0, .l 114 0] ?_
  simp
  have hO := as0 (bs ++ within a true) [[91]] (by simp only [List.flatten_cons, List.flatten_nil, List.append_nil, List.length_append, List.length_cons, List.length_nil]; omega) (by simp)
  try simp [ae0, ad0] at hO
  refine ab0 117 hO ?_
  refine rS0 ?_
  refine aa0 [.e 0, .l 117 0] ?_
  simp
  have hO := hy (bs ++ within a true ++ [[91]].flatten) (by simp only [List.flatten_cons, List.flatten_nil, List.append_nil, List.length_append, List.length_cons, List.length_nil]; omega)
  try simp [ae0, ad0] at hO
  refine ab0 123 hO ?_
  refine rS0 ?_
  refine aa0 [.e 0, .l 123 0] ?_
  simp
  have hO := as0 (bs ++ within a true ++ [[91]].flatten ++ b) [[93]] (by simp only [List.flatten_cons, List.flatten_nil, List.append_nil, List.length_append, List.length_cons, List.length_nil]; omega) (by simp)
  try simp [ae0, ad0] at hO
  refine ab0 126 hO ?_
  refine rS0 ?_
  refine bX0 [.l 126 0] ?_
  exact rT1 @ad0.eq_1
 ·skip
  refine rS3 c1 c2 @c3 ?_
  refine aa0 [.e 0, .e 1] ?_
  simp
  have hO := cb0 hx true bs (by omega)
  try simp [ae0, ad0] at hO
  refine ab0 114 hO ?_
  refine rS0 ?_
  refine aa0 [.e 0, .l 114 0] ?_
  simp
  have hO := as0 (bs ++ within a true) [[91]] (by simp only [List.flatten_cons, List.flatten_nil, List.append_nil, List.length_append, List.length_cons, List.length_nil]; omega) (by simp)
  try simp [ae0, ad0] at hO
  refine ab0 117 hO ?_
  refine rS0 ?_
  refine aa0 [.e 0, .l 117 0] ?_
  simp
  have hO := hy (bs ++ within a true ++ [[91]].flatten) (by simp only [List.flatten_cons, List.flatten_nil, List.append_nil, List.length_append, List.length_cons, List.length_nil]; omega)
  try simp [ae0, ad0] at hO
  refine ab0 123 hO ?_
  refine rS0 ?_
  refine aa0 [.e 0, .l 123 0] ?_
  simp
  have hO := as0 (bs ++ within a true ++ [[91]].flatten ++ b) [[93]] (by simp only [List.flatten_cons, List.flatten_nil, List.append_nil, List.length_append, List.length_cons, List.length_nil]; omega) (by simp)
  try simp [ae0, ad0] at hO
  refine ab0 126 hO ?_
  refine rS0 ?_
  refine bX0 [.l 126 0] ?_
  exact rT1 @ad0.eq_1
 ·have c3q : (x.kind == 14) = false := by simp [c3]
  refine rS4 c1 c2 @c3 c3q ?_
  refine aa0 [.e 0, .e 1] ?_
  simp
  have hO := cb0 hx false bs (by omega)
  try simp [ae0, ad0] at hO
  refine ab0 114 hO ?_
  refine rS0 ?_
  refine aa0 [.e 0, .l 114 0] ?_
  simp
  have hO := as0 (bs ++ within a false) [[91]] (by simp only [List.flatten_cons, List.flatten_nil, List.append_nil, List.length_append, List.length_cons, List.length_nil]; omega) (by simp)
  try simp [ae0, ad0] at hO
  refine ab0 117 hO ?_
  refine rS0 ?_
  refine aa0 [.e 0, .l 117 0] ?_
  simp
  have hO := hy (bs ++ within a false ++ [[91]].flatten) (by simp only [List.flatten_cons, List.flatten_nil, List.append_nil, List.length_append, List.length_cons, List.length_nil]; omega)
  try simp [ae0, ad0] at hO
  refine ab0 123 hO ?_
  refine rS0 ?_
  refine aa0 [.e 0, .l 123 0] ?_
  simp
  have hO := as0 (bs ++ within a false ++ [[91]].flatten ++ b) [[93]] (by simp only [List.flatten_cons, List.flatten_nil, List.append_nil, List.length_append, List.length_cons, List.length_nil]; omega) (by simp)
  try simp [ae0, ad0] at hO
  refine ab0 126 hO ?_
  refine rS0 ?_
  refine bX0 [.l 126 0] ?_
  exact rT1 @ad0.eq_1
set_option maxHeartbeats 3200000 in
theorem qK0 (num : Int) (op : Int) (text : ByteArray) (slot : Int) (type : ByteArray) (at_ : Int) (x : Exq) (a : Bs) (hx : db0 x a) : db0 (.mk 13 op num text slot type [x] at_) ([45] ++ within a (decide (x.kind = 15))) := by
 intro bs hl
 simp only [List.length_append, List.length_cons, List.length_nil] at hl
 obtain ⟨q, hq⟩ : ∃ q, decide (x.kind = 15) = q := ⟨_, rfl⟩
 rw [hq] at hl ⊢
 have hq2 : (x.kind == 15) = q := by rw [<- hq]; rfl
 have e1 : (bS [45, 33]).extract 0 2 = bS [45, 33] := by rw [cK0]; rfl
 have e2 : (bS [45, 33]).extract 0 1 = bS [45] := by rw [cK0]; rfl
 refine at0 aF0 (by simp [ae0]) ?_
 rw [Exq.V, Exq.ac0]
 simp +contextual (maxSteps := 2000000) (disch := omega) [-Int.not_lt, -Int.not_le, -Nat.not_lt, -Nat.not_le, sx, aC0, ae0, hpE, Exq.kind, Exq.op, Exq.num, Exq.text, Exq.slot, Exq.type, Exq.args, Exq.at_]
 refine aa0 [] ?_
 simp
 have hO := an0
 try simp [ae0, ad0] at hO
 refine ab0 23 hO ?_
 refine rS3 e1 e2 @dn0 ?_
 refine aa0 [.e 0, .e 1] ?_
 simp
 have hO := as0 bs [[45]] (by simp only [List.flatten_cons, List.flatten_nil, List.append_nil, List.length_append, List.length_cons, List.length_nil]; omega) (by simp)
 try simp [ae0, ad0] at hO
 refine ab0 137 hO ?_
 refine rS1 hq2 ?_
 refine aa0 [.e 0, .l 137 0] ?_
 simp
 have hO := cb0 hx q (bs ++ [[45]].flatten) (by simp only [List.flatten_cons, List.flatten_nil, List.append_nil, List.length_append, List.length_cons, List.length_nil]; omega)
 try simp [ae0, ad0] at hO
 refine ab0 149 hO ?_
 refine rS0 ?_
 refine bX0 [.l 149 0] ?_
 exact rT1 @ad0.eq_1
set_option maxHeartbeats 3200000 in
theorem qL0 (num : Int) (op : Int) (text : ByteArray) (slot : Int) (type : ByteArray) (at_ : Int) (x : Exq) (a : Bs) (hx : db0 x a) : db0 (.mk 14 op num text slot type [x] at_) ([33] ++ within a (decide (x.kind = 15))) := by
 intro bs hl
 simp only [List.length_append, List.length_cons, List.length_nil] at hl
 obtain ⟨q, hq⟩ : ∃ q, decide (x.kind = 15) = q := ⟨_, rfl⟩
 rw [hq] at hl ⊢
 have hq2 : (x.kind == 15) = q := by rw [<- hq]; rfl
 have e1 : (bS [45, 33]).extract 1 2 = bS [33] := by rw [cK0]; rfl
 have e2 : (bS [33]).extract 0 1 = bS [33] := by rw [cK0]; rfl
 refine at0 aF0 (by simp [ae0]) ?_
 rw [Exq.V, Exq.ac0]
 simp +contextual (maxSteps := 2000000) (disch := omega) [-Int.not_lt, -Int.not_le, -Nat.not_lt, -Nat.not_le, sx, aC0, ae0, hpE, Exq.kind, Exq.op, Exq.num, Exq.text, Exq.slot, Exq.type, Exq.args, Exq.at_]
 refine aa0 [] ?_
 simp
 have hO := an0
 try simp [ae0, ad0] at hO
 refine ab0 23 hO ?_
 refine rS3 e1 e2 @dn0 ?_
 refine aa0 [.e 0, .e 1] ?_
 simp
 have hO := as0 bs [[33]] (by simp only [List.flatten_cons, List.flatten_nil, List.append_nil, List.length_append, List.length_cons, List.length_nil]; omega) (by simp)
 try simp [ae0, ad0] at hO
 refine ab0 137 hO ?_
 refine rS1 hq2 ?_
 refine aa0 [.e 0, .l 137 0] ?_
 simp
 have hO := cb0 hx q (bs ++ [[33]].flatten) (by simp only [List.flatten_cons, List.flatten_nil, List.append_nil, List.length_append, List.length_cons, List.length_nil]; omega)
 try simp [ae0, ad0] at hO
 refine ab0 149 hO ?_
 refine rS0 ?_
 refine bX0 [.l 149 0] ?_
 exact rT1 @ad0.eq_1
set_option maxHeartbeats 3200000 in
theorem expr_bin (num : Int) (op : Int) (text : ByteArray) (slot : Int) (type : ByteArray) (at_ : Int) (x y : Exq) (a b : Bs) (hop : opOk op = true) (hx : db0 x a) (hy : db0 y b) (ox : x.kind = 15 -> opOk x.op = true) (oy : y.kind = 15 -> opOk y.op = true) :
  db0 (.mk 15 op num text slot type [x, y] at_) (within a (dS0 x (if lvl op = 3 then 4 else lvl op)) ++ [32] ++ opB op ++ [32] ++ within b (dS0 y (lvl op + 1))) := by
 intro bs hl
 simp only [List.length_append, List.length_cons, List.length_nil] at hl
 have hop' := hop
 unfold opOk at hop'
 simp only [decide_eq_true_eq] at hop'
 have hq : op.toNat - 1 < pOps.length := by show op.toNat - 1 < 13; omega
 have hg : pOps[op.toNat - 1] = opB op := by
  unfold opB
  rw [List.getD_eq_getElem?_getD, List.getElem?_eq_getElem hq]; rfl
 have hlv : 1 <= lvl op /\ lvl op <= 5 := by
  unfold lvl
  split
  ·omega
  ·split
   ·omega
   ·split <;> omega
 refine at0 aF0 (by simp [ae0]) ?_
 rw [Exq.V, Exq.ac0]
 simp +contextual (maxSteps := 2000000) (disch := omega) [-Int.not_lt, -Int.not_le, -Nat.not_lt, -Nat.not_le, sx, aC0, ae0, hpE, Exq.kind, Exq.op, Exq.num, Exq.text, Exq.slot, Exq.type, Exq.args, Exq.at_]
 refine aa0 [] ?_
 simp
 have hO := an0
 try simp [ae0, ad0] at hO
 refine ab0 23 hO ?_
 refine rS0 ?_
 refine ak0 ?_; simp; refine ah0 (jh0 op hop) (by simp) ?_
 generalize hL : lvl op = L at *
 by_cases h3 : L = 3
 ·subst h3; rw [if_pos rfl, show (3 : Int) + 1 = 4 from rfl] at hl ⊢
  refine rS0 ?_
  refine dd0 ?_; simp; refine ah0 (ep0 x 4 ox) (by simp) ?_
  refine rS0 ?_
  refine aa0 [.e 0, .e 1] ?_
  simp
  have hO := cb0 hx (dS0 x 4) bs (by omega)
  try simp [ae0, ad0] at hO
  refine ab0 171 hO ?_
  refine rS0 ?_
  refine dd0 ?_; simp; refine ah0 (ji0) (by simp) ?_
  refine rS1 hg ?_
  refine aa0 [.e 0, .l 171 0] ?_
  simp
  have hO := as0 (bs ++ within a (dS0 x 4)) [[32], opB op, [32]] (by simp only [List.flatten_cons, List.flatten_nil, List.append_nil, List.length_append, List.length_cons, List.length_nil]; omega) (by simp)
  try simp [ae0, ad0] at hO
  refine ab0 180 hO ?_
  refine rS0 ?_
  refine dd0 ?_; simp; refine ah0 (ep0 y (4) oy) (by simp) ?_
  refine rS0 ?_
  refine aa0 [.e 0, .l 180 0] ?_
  simp
  have hO := cb0 hy (dS0 y (4)) (bs ++ within a (dS0 x 4) ++ [[32], opB op, [32]].flatten) (by simp only [List.flatten_cons, List.flatten_nil, List.append_nil, List.length_append, List.length_cons, List.length_nil]; omega)
  try simp [ae0, ad0] at hO
  refine ab0 193 hO ?_
  refine rS0 ?_
  refine bX0 [.l 193 0] ?_
  exact rT1 @ad0.eq_1
 ·rw [if_neg h3] at hl ⊢
  refine rS1 h3 ?_
  refine dd0 ?_; simp; refine ah0 (ep0 x L ox) (by simp) ?_
  refine rS0 ?_
  refine aa0 [.e 0, .e 1] ?_
  simp
  have hO := cb0 hx (dS0 x L) bs (by omega)
  try simp [ae0, ad0] at hO
  refine ab0 171 hO ?_
  refine rS0 ?_
  refine dd0 ?_; simp; refine ah0 (ji0) (by simp) ?_
  refine rS1 hg ?_
  refine aa0 [.e 0, .l 171 0] ?_
  simp
  have hO := as0 (bs ++ within a (dS0 x L)) [[32], opB op, [32]] (by simp only [List.flatten_cons, List.flatten_nil, List.append_nil, List.length_append, List.length_cons, List.length_nil]; omega) (by simp)
  try simp [ae0, ad0] at hO
  refine ab0 180 hO ?_
  refine rS0 ?_
  refine dd0 ?_; simp; refine ah0 (ep0 y (L + 1) oy) (by simp) ?_
  refine rS0 ?_
  refine aa0 [.e 0, .l 180 0] ?_
  simp
  have hO := cb0 hy (dS0 y (L + 1)) (bs ++ within a (dS0 x L) ++ [[32], opB op, [32]].flatten) (by simp only [List.flatten_cons, List.flatten_nil, List.append_nil, List.length_append, List.length_cons, List.length_nil]; omega)
  try simp [ae0, ad0] at hO
  refine ab0 193 hO ?_
  refine rS0 ?_
  refine bX0 [.l 193 0] ?_
  exact rT1 @ad0.eq_1
end Go.Am
end

section
namespace Go.Proofs
open Go.Shelf
def Tryz.pS0 : Go.Shelf.Ren := ⟨fun | 15 => 124 | 20 => 139 | n => n, fun | 9 => 9 | 23 => 160 | 3 => 3 | 4 => 4 | 0 => 0 | 21 => 21 | n => n, fun | n => n⟩
theorem Tryz.laysGw15 : Go.Proofs.LaysGw.n15 Tryz.prog Tryz.pS0 := {
 mixed := by kernel_rfl
 f15 := Tryz.func124.trans (congrArg some (by kernel_rfl))
 f20 := Tryz.func139.trans (congrArg some (by kernel_rfl))
 t0 := Tryz.underlying0
 a0 := Tryz.isAgg0
 z0 := Tryz.sizeOf0
 v0 := Tryz.zeroValue0
 i0 := by kernel_rfl
 t3 := Tryz.underlying3
 a3 := Tryz.isAgg3
 z3 := Tryz.sizeOf3
 v3 := Tryz.zeroValue3
 i3 := by kernel_rfl
 t4 := Tryz.underlying4
 a4 := Tryz.isAgg4
 z4 := Tryz.sizeOf4
 v4 := Tryz.zeroValue4
 i4 := by kernel_rfl
 t9 := Tryz.underlying9
 a9 := Tryz.isAgg9
 z9 := Tryz.sizeOf9
 v9 := Tryz.zeroValue9
 i9 := by kernel_rfl
 t21 := Tryz.underlying21
 a21 := Tryz.isAgg21
 z21 := Tryz.sizeOf21
 v21 := Tryz.zeroValue21
 i21 := by kernel_rfl
 t23 := Tryz.underlying160
 a23 := Tryz.isAgg160
 z23 := Tryz.sizeOf160
 v23 := Tryz.zeroValue160
 i23 := by kernel_rfl }
end Go.Proofs
end

section
namespace Go.Am
set_option maxRecDepth 100000
attribute [local irreducible] vc vcIs vcI vcOp vcD vcDp vcDR vcT vcAR bV0 aY0 panD neG ne pv J bH0 bM0 bY0 bd0 evK evsK nthK objK boxK rowK bz0 intK strK aggK fnK ifcK ay0 az0 ldK ldaK iaK srcK stK appK appD b00 pvK bC0 aW0 bL0 bs0 slAV bG0
theorem r90 (s : ByteArray) (i : Nat) (h : (s.get! i).toNat < 128) : Utf8.decode s i = ((s.get! i).toNat, 1) := by
 unfold Utf8.decode
 simp [h]
theorem decode_high (s : ByteArray) (i : Nat) (h : ¬ (s.get! i).toNat < 128) : 128 <= (Utf8.decode s i).1 := by
 unfold Utf8.decode
 have h0 : ¬ (s.get! (i + 0)).toNat < 128 := h
 simp only [if_neg h0]
 repeat' split
 all_goals first | (simp [Utf8.runeError]; done) | (dsimp only; omega) | (rename_i hh; simp only [Bool.and_eq_true, decide_eq_true_eq, ge_iff_le] at hh; dsimp only; omega)
def plR (r : Nat) : Bool := decide (r < 32) || decide (126 < r)
theorem pM0 (s : ByteArray) : ∀ (f pos : Nat), s.size <= pos + f -> (Lib.idxFuncFrom plR true s f pos < 0 ↔ ∀ j, pos <= j -> j < s.size -> 32 <= (s.get! j).toNat /\ (s.get! j).toNat <= 126)
 | 0, pos, h => by simp [Lib.idxFuncFrom]; intro j h1 h2; omega
 | f + 1, pos, h => by
  rw [Lib.idxFuncFrom]
  by_cases hp : pos < s.size
  ·rw [if_pos hp]
   by_cases hl : (s.get! pos).toNat < 128
   ·rw [r90 s pos hl]
    dsimp only
    by_cases hb : plR (s.get! pos).toNat = true
    ·rw [if_pos hb]
     constructor
     ·intro h'; omega
     ·intro h'
      have := h' pos (Nat.le_refl _) hp
      simp only [plR, Bool.or_eq_true, decide_eq_true_eq] at hb
      omega
    ·rw [if_neg hb, pM0 s f (pos + 1) (by omega)]
     simp only [plR, Bool.or_eq_true, decide_eq_true_eq] at hb
     constructor
     ·intro h' j h1 h2
      by_cases e : j = pos
      ·subst e; omega
      ·exact h' j (by omega) h2
     ·intro h' j h1 h2; exact h' j (by omega) h2
   ·have hd := decode_high s pos hl
    rw [if_pos (by simp only [plR, Bool.or_eq_true, decide_eq_true_eq]; omega)]
    constructor
    ·intro h'; omega
    ·intro h'; have := h' pos (Nat.le_refl _) hp; omega
  ·rw [if_neg hp]
   simp
   intro j h1 h2; omega
theorem pr0 (x : Int) (h0 : 0 <= x) (h1 : x <= 1114111) : Ret prog h20 [.c (.int .i32 x)] (vB (decide (x < 32) || decide (126 < x))) := by
 refine cm0 nG0 (by simp) ?_
 exact rT1 @j30.eq_1
theorem J.belows {f : FuncId} {fn : Func} {c : Code} {args : List V} {v : V} (hf : prog.funcs[f]? = some fn) (hn : (fn.name == "runtime.NumGoroutine") = false) (hb : fn.body = some c) (h : Ret prog f args v)
  {H : Imm} {μ : Mu} {us : Array Value} {w : World} (h3 : RL H μ args us) (hW : Wd H μ (hpE 0 []) w) :
  Calls prog f us w fun e w' => (∃ x H' μ', e = .returned x /\ R H' μ' v x) /\ Go.RowKit.Below w.heap.size w w' := by
 have hn' : ¬ fn.name = "runtime.NumGoroutine" := by simpa using hn
 have hrun : (callFunc f us).run prog w = .ok (.enter f us) w := by simp [callFunc, hf, hn', hb]
 unfold Ret J at h
 have hc := h H μ us w h3 hW
 unfold dF0 at hc
 rw [hrun] at hc
 refine Calls.mono hc ?_
 rintro e w' ⟨r, H', μ', rfl, ⟨x, rfl, hx⟩, hN, _⟩
 exact ⟨⟨x, H', μ', rfl, hx⟩, ⟨hN.os, hN.tape, hN.output, hN.size, fun b hb => hN.keep b hb (by rintro ⟨i, o, blk, h, _⟩; simp [hpE] at h)⟩⟩
theorem r20 (us : Array Value) (w : World) : (callFunc 125 us).run prog w = .ok (.enter 125 us) w := by
 obtain ⟨c, hc⟩ : ∃ c, Go.Proofs.Tryz.f125.body = some c := ⟨_, rfl⟩
 have hn : (Go.Proofs.Tryz.f125.name == "runtime.NumGoroutine") = false := by kernel_rfl
 have hn' : ¬ Go.Proofs.Tryz.f125.name = "runtime.NumGoroutine" := by simpa using hn
 simp [callFunc, Go.Proofs.Tryz.func125, hn', hc]
theorem mz0 (s : ByteArray) : Ret prog ko0 [vS s, .fn h20 []] (vI (Lib.idxFunc plR true s)) := by
 obtain ⟨c, hc⟩ : ∃ c, Go.Proofs.Tryz.f124.body = some c := ⟨_, rfl⟩
 obtain ⟨c2, hc2⟩ : ∃ c, Go.Proofs.Tryz.f125.body = some c := ⟨_, rfl⟩
 refine qB0 Go.Proofs.Tryz.func124 (by kernel_rfl) hc ?_
 intro H μ us w hv hW
 have r0 := hv.2 0 _ rfl
 have r1 := hv.2 1 _ rfl
 rw [mw0 hv]
 generalize us.getD 0 undef = p at r0
 generalize us.getD 1 undef = q at r1
 cases r0
 cases r1 with
 | fn _ _ vs hnv hr =>
 obtain rfl : vs = #[] := Array.eq_empty_of_size_eq_zero (by simpa using hnv)
 have hp : Go.Proofs.PredGrows prog 125 #[] plR w := by
  intro W x hx hB
  have hWW : Wd H μ (hpE 0 []) W := hW.below hB.block
  have hk := J.belows Go.Proofs.Tryz.func125 (by kernel_rfl) hc2 (pr0 (x : Int) (by omega) (by omega)) (H := H) (μ := μ) (us := #[.int .i32 (x : Int)] ++ #[]) (w := W) ⟨rfl, fun j u hj => by
   match j, hj with
   | 0, hj => injection hj with hj; subst hj; exact .c _
   | j + 1, hj => simp at hj⟩ hWW
  refine Calls.mono hk ?_
  rintro e w' ⟨⟨y, H', μ', rfl, hy⟩, hb⟩
  cases hy
  refine ⟨?_, hb⟩
  have e1 : (decide ((x : Int) < 32) || decide (126 < (x : Int))) = plR x := by
   unfold plR
   congr 1 <;> (rw [decide_eq_decide]; omega)
  rw [<- e1]
 have hj := Go.Proofs.Any.strings_IndexFunc_grows Go.Proofs.Tryz.laysGw15 125 #[] r20 plR s w hp
 have hfin : Calls prog 124 #[.string s, .func (.func 125) #[] #[]] w fun e w' => e = .returned (.int .i64 (Lib.idxFunc plR true s)) /\ Go.RowKit.Below w.heap.size w w' := hj
 refine Calls.mono hfin ?_
 rintro e w' ⟨he, hB⟩
 exact ⟨⟨_, he, .c _⟩, hB⟩
theorem rn0 (s : ByteArray) {j : Nat} (hj : j < s.size) : s.get! j = s.data.toList[j]'(by simpa using hj) := by
 show s.data[j]! = _
 rw [getElem!_pos s.data j hj]
 simp
theorem plain_iff (s : ByteArray) : (decide (Lib.idxFunc plR true s < 0)) = (sB s).all fun c => decide (32 <= c /\ c <= 126) := by
 rw [Bool.eq_iff_iff, decide_eq_true_eq, List.all_eq_true]
 unfold Lib.idxFunc
 rw [pM0 s s.size 0 (by omega)]
 constructor
 ·intro h c hc
  obtain ⟨j, hj, rfl⟩ := List.getElem_of_mem hc
  have hj' : j < s.size := by simpa using hj
  have := h j (by omega) hj'
  rw [rn0 s hj'] at this
  rw [decide_eq_true_eq, UInt8.le_iff_toNat_le, UInt8.le_iff_toNat_le]
  exact this
 ·intro h j _ hj
  have := h (s.data.toList[j]'(by simpa using hj)) (List.getElem_mem _)
  rw [decide_eq_true_eq, UInt8.le_iff_toNat_le, UInt8.le_iff_toNat_le] at this
  rw [rn0 s hj]
  exact this
theorem nL0 (s : ByteArray) (hs : s.size < 2 ^ 40) : Ret prog mN0 [vS s] (vB (hP0 (sB s))) := by
 have hl : (sB s).length = s.size := rfl
 refine cm0 pE0 (by simp) ?_
 by_cases h : (s.size : Int) <= 256
 ·have h' : s.size <= 256 := by omega
  have hp : hP0 (sB s) = decide (Lib.idxFunc plR true s < 0) := by rw [plain_iff]; unfold hP0; rw [hl]; simp [h']
  refine rS2 @iF0.eq_1 h ?_
  refine ak0 ?_; simp; refine ah0 (mz0 s) (by simp) ?_
  exact rT1 hp
 ·have h' : ¬ s.size <= 256 := by omega
  have hp : hP0 (sB s) = false := by unfold hP0; rw [hl]; simp [h']
  exact rT3 @iF0.eq_1 h hp
end Go.Am
end

section
namespace Go.Proofs
open Go.Shelf
def Tryz.qR0 : Go.Shelf.Ren := ⟨fun | 138 => 210 | 195 => 211 | 218 => 212 | 143 => 213 | 219 => 214 | 217 => 79 | 225 => 147 | 224 => 146 | 267 => 215 | 266 => 110 | 314 => 216 | n => n, fun | 9 => 9 | 3 => 3 | 4 => 4 | 5 => 5 | 0 => 0 | 46 => 52 | 146 => 263 | 51 => 152 | n => n, fun | 1 => 1 | n => n⟩
theorem Tryz.lays138 : Go.Proofs.Lays.n138 Tryz.prog Tryz.qR0 := {
 mixed := by kernel_rfl
 f138 := Tryz.func210.trans (congrArg some (by kernel_rfl))
 f143 := Tryz.func213.trans (congrArg some (by kernel_rfl))
 f195 := Tryz.func211.trans (congrArg some (by kernel_rfl))
 f217 := Tryz.func79.trans (congrArg some (by kernel_rfl))
 f218 := Tryz.func212.trans (congrArg some (by kernel_rfl))
 f219 := Tryz.func214.trans (congrArg some (by kernel_rfl))
 f224 := Tryz.func146.trans (congrArg some (by kernel_rfl))
 f225 := Tryz.func147.trans (congrArg some (by kernel_rfl))
 f266 := Tryz.func110.trans (congrArg some (by kernel_rfl))
 f267 := Tryz.func215.trans (congrArg some (by kernel_rfl))
 f314 := Tryz.func216.trans (congrArg some (by kernel_rfl))
 t0 := Tryz.underlying0
 a0 := Tryz.isAgg0
 z0 := Tryz.sizeOf0
 v0 := Tryz.zeroValue0
 t3 := Tryz.underlying3
 a3 := Tryz.isAgg3
 z3 := Tryz.sizeOf3
 v3 := Tryz.zeroValue3
 t4 := Tryz.underlying4
 a4 := Tryz.isAgg4
 z4 := Tryz.sizeOf4
 v4 := Tryz.zeroValue4
 t5 := Tryz.underlying5
 a5 := Tryz.isAgg5
 z5 := Tryz.sizeOf5
 v5 := Tryz.zeroValue5
 t9 := Tryz.underlying9
 a9 := Tryz.isAgg9
 z9 := Tryz.sizeOf9
 v9 := Tryz.zeroValue9
 t46 := Tryz.underlying52
 a46 := Tryz.isAgg52
 z46 := Tryz.sizeOf52
 v46 := Tryz.zeroValue52
 t51 := Tryz.underlying152
 a51 := Tryz.isAgg152
 z51 := Tryz.sizeOf152
 v51 := Tryz.zeroValue152
 t146 := Tryz.underlying263
 a146 := Tryz.isAgg263
 z146 := Tryz.sizeOf263
 v146 := Tryz.zeroValue263
 g1 := by kernel_rfl }
end Go.Proofs
end

section
namespace Go.Am
set_option maxRecDepth 100000
theorem dc0 : a00.alt = (.seq (.reg [⟨(some 4), none, (.mv (.const (.string ⟨⟨[]⟩⟩)))⟩]) (.seq (.reg [⟨(some 16), none, (.mv (.tmp 1))⟩, ⟨(some 17), none, (.lenS (.tmp 16))⟩, ⟨(some 5), none, (.mv (.tmp 17))⟩]) (.seq (.reg [⟨(some 6), none, (.mv (.const (.bool false)))⟩]) (.seq (.seq (.reg [⟨(some 18), none, (.mv (.tmp 0))⟩, ⟨(some 19), none, (.nchk (.tmp 18))⟩, ⟨(some 20), none, (.fa 256 (.tmp 19))⟩, ⟨(some 21), none, (.ld (.tmp 20))⟩, ⟨(some 22), none, (.len (.tmp 21))⟩, ⟨(some 23), none, (.bin .mul (.tmp 22) (.const (.int .i64 8)))⟩, ⟨(some 24), none, (.mv (.tmp 1))⟩, ⟨(some 25), none, (.lenS (.tmp 24))⟩, ⟨(some 26), none, (.bin .leq (.tmp 23) (.tmp 25))⟩]) (.cond (.tmp 26) (.seq (.reg [⟨(some 27), none, (.mv (.tmp 0))⟩, ⟨(some 28), none, (.nchk (.tmp 27))⟩, ⟨(some 29), none, (.fa 256 (.tmp 28))⟩, ⟨(some 30), none, (.ld (.tmp 29))⟩, ⟨(some 31), none, (.len (.tmp 30))⟩, ⟨(some 32), none, (.mv (.const (.int .i64 0)))⟩]) (.blk 0 (.loop (.seq (.reg [⟨(some 33), none, (.bin .lss (.tmp 32) (.tmp 31))⟩]) (.seq (.cond (.tmp 33) .skip (.exit 0)) (.seq (.blk 1 (.seq (.reg [⟨(some 34), none, (.ia 1 (.tmp 30) (.tmp 32))⟩, ⟨(some 35), none, (.ld (.tmp 34))⟩, ⟨(some 8), none, (.mv (.tmp 35))⟩]) (.seq (.reg [⟨(some 36), none, (.mv (.tmp 1))⟩, ⟨(some 37), none, (.mv (.tmp 8))⟩, ⟨(some 38), none, (.call (.func 210) [(.tmp 36), (.tmp 37)])⟩, ⟨(some 9), none, (.mv (.tmp 38))⟩]) (.seq (.reg [⟨(some 39), none, (.mv (.tmp 9))⟩, ⟨(some 40), none, (.bin .neq (.tmp 39) (.const (.int .i64 0)))⟩]) (.cond (.tmp 40) (.seq (.areg (AT.take ⟨(some 41), none, (.mv (.tmp 5))⟩ (AT.take ⟨(some 42), none, (.mv (.tmp 9))⟩ (AT.take ⟨(some 43), none, (.mv (.tmp 0))⟩ (AT.take ⟨(some 44), none, (.mv (.tmp 8))⟩ (AT.take ⟨(some 46), none, (.nchk (.tmp 43))⟩ (AT.take ⟨(some 47), none, (.fa 0 (.tmp 46))⟩ (AT.alt ⟨(some 45), none, (.ixS (.tmp 44) (.const (.int .i64 0)))⟩ (AT.alt ⟨(some 48), none, (.iaA 256 1 (.tmp 47) (.tmp 45))⟩ (AT.alt ⟨(some 49), none, (.ld (.tmp 48))⟩ (AT.alt ⟨(some 50), none, (.len (.tmp 49))⟩ (AT.alt ⟨(some 51), none, (.bin .sub (.tmp 50) (.const (.int .i64 1)))⟩ (AT.alt ⟨(some 52), none, (.bin .mul (.tmp 42) (.tmp 51))⟩ AT.done AT.nil) AT.nil) AT.nil) AT.nil) AT.nil) AT.nil))))))) [⟨(some 53), none, (.bin .add (.tmp 41) (.tmp 52))⟩, ⟨(some 5), none, (.mv (.tmp 53))⟩] [(some 41), (some 42), (some 43), (some 44), (some 45), (some 46), (some 47), (some 48), (some 49), (some 50), (some 51), (some 52), (some 53), (some 5)]) (.reg [⟨(some 6), none, (.mv (.const (.bool true)))⟩])) .skip))))) (.reg [⟨(some 54), none, (.bin .add (.tmp 32) (.const (.int .i64 1)))⟩, ⟨(some 32), none, (.mv (.tmp 54))⟩]))))))) (.seq (.reg [⟨(some 10), none, (.mv (.const (.int .i64 0)))⟩]) (.blk 2 (.loop (.seq (.seq (.reg [⟨(some 55), none, (.mv (.tmp 10))⟩, ⟨(some 56), none, (.mv (.tmp 1))⟩, ⟨(some 57), none, (.lenS (.tmp 56))⟩, ⟨(some 58), none, (.bin .lss (.tmp 55) (.tmp 57))⟩]) (.cond (.tmp 58) .skip (.exit 2))) (.seq (.blk 3 (.seq (.reg [⟨(some 61), none, (.mv (.tmp 1))⟩, ⟨(some 62), none, (.mv (.tmp 10))⟩, ⟨(some 63), none, (.ixS (.tmp 61) (.tmp 62))⟩, ⟨(some 11), none, (.mv (.tmp 63))⟩]) (.seq (.reg [⟨(some 64), none, (.mv (.tmp 0))⟩, ⟨(some 65), none, (.mv (.tmp 11))⟩, ⟨(some 66), none, (.nchk (.tmp 64))⟩, ⟨(some 67), none, (.fa 0 (.tmp 66))⟩, ⟨(some 68), none, (.iaA 256 1 (.tmp 67) (.tmp 65))⟩, ⟨(some 69), none, (.ld (.tmp 68))⟩, ⟨(some 70), none, (.isnl true (.tmp 69))⟩]) (.cond (.tmp 70) (.seq (.reg [⟨(some 71), none, (.mv (.tmp 5))⟩, ⟨(some 72), none, (.mv (.tmp 0))⟩, ⟨(some 73), none, (.mv (.tmp 11))⟩, ⟨(some 74), none, (.nchk (.tmp 72))⟩, ⟨(some 75), none, (.fa 0 (.tmp 74))⟩, ⟨(some 76), none, (.iaA 256 1 (.tmp 75) (.tmp 73))⟩, ⟨(some 77), none, (.ld (.tmp 76))⟩, ⟨(some 78), none, (.len (.tmp 77))⟩, ⟨(some 79), none, (.bin .sub (.tmp 78) (.const (.int .i64 1)))⟩, ⟨(some 80), none, (.bin .add (.tmp 71) (.tmp 79))⟩, ⟨(some 5), none, (.mv (.tmp 80))⟩]) (.reg [⟨(some 6), none, (.mv (.const (.bool true)))⟩])) .skip)))) (.reg [⟨(some 59), none, (.mv (.tmp 10))⟩, ⟨(some 60), none, (.bin .add (.tmp 59) (.const (.int .i64 1)))⟩, ⟨(some 10), none, (.mv (.tmp 60))⟩])))))))) (.seq (.seq (.reg [⟨(some 81), none, (.mv (.tmp 6))⟩, ⟨(some 82), none, (.un .not (.tmp 81))⟩]) (.cond (.tmp 82) (.seq (.reg [⟨(some 83), none, (.mv (.tmp 1))⟩, ⟨(some 4), none, (.mv (.tmp 83))⟩]) .ret) .skip)) (.seq (.reg [⟨(some 84), none, (.mv (.tmp 5))⟩, ⟨(some 85), none, (.mks 5 1 1 [(.c (.int .u8 0))] (.tmp 84) (.tmp 84))⟩, ⟨(some 12), none, (.mv (.tmp 85))⟩]) (.seq (.reg [⟨(some 13), none, (.mv (.const (.int .i64 0)))⟩]) (.seq (.seq (.reg [⟨(some 14), none, (.mv (.const (.int .i64 0)))⟩]) (.blk 4 (.loop (.seq (.seq (.reg [⟨(some 86), none, (.mv (.tmp 14))⟩, ⟨(some 87), none, (.mv (.tmp 1))⟩, ⟨(some 88), none, (.lenS (.tmp 87))⟩, ⟨(some 89), none, (.bin .lss (.tmp 86) (.tmp 88))⟩]) (.cond (.tmp 89) .skip (.exit 4))) (.seq (.blk 5 (.seq (.reg [⟨(some 92), none, (.mv (.tmp 1))⟩, ⟨(some 93), none, (.mv (.tmp 14))⟩, ⟨(some 94), none, (.ixS (.tmp 92) (.tmp 93))⟩, ⟨(some 15), none, (.mv (.tmp 94))⟩]) (.seq (.reg [⟨(some 95), none, (.mv (.tmp 0))⟩, ⟨(some 96), none, (.mv (.tmp 15))⟩, ⟨(some 97), none, (.nchk (.tmp 95))⟩, ⟨(some 98), none, (.fa 0 (.tmp 97))⟩, ⟨(some 99), none, (.iaA 256 1 (.tmp 98) (.tmp 96))⟩, ⟨(some 100), none, (.ld (.tmp 99))⟩, ⟨(some 101), none, (.isnl true (.tmp 100))⟩]) (.cond (.tmp 101) (.areg (AT.take ⟨(some 102), none, (.mv (.tmp 13))⟩ (AT.take ⟨(some 103), none, (.mv (.tmp 12))⟩ (AT.take ⟨(some 104), none, (.mv (.tmp 13))⟩ (AT.take ⟨(some 106), none, (.mv (.tmp 0))⟩ (AT.take ⟨(some 107), none, (.mv (.tmp 15))⟩ (AT.take ⟨(some 108), none, (.nchk (.tmp 106))⟩ (AT.take ⟨(some 109), none, (.fa 0 (.tmp 108))⟩ (AT.alt ⟨(some 105), none, (.slL 1 (.tmp 103) (some (.tmp 104)) none)⟩ (AT.alt ⟨(some 110), none, (.iaA 256 1 (.tmp 109) (.tmp 107))⟩ (AT.alt ⟨(some 111), none, (.ld (.tmp 110))⟩ (AT.alt ⟨(some 112), none, (.cpy 1 (.tmp 105) (.tmp 111))⟩ AT.done AT.nil) AT.nil) AT.nil) (AT.alt ⟨(some 110), none, (.iaA 256 1 (.tmp 109) (.tmp 107))⟩ (AT.alt ⟨(some 105), none, (.slL 1 (.tmp 103) (some (.tmp 104)) none)⟩ (AT.alt ⟨(some 111), none, (.ld (.tmp 110))⟩ (AT.alt ⟨(some 112), none, (.cpy 1 (.tmp 105) (.tmp 111))⟩ AT.done AT.nil) AT.nil) (AT.alt ⟨(some 111), none, (.ld (.tmp 110))⟩ (AT.alt ⟨(some 105), none, (.slL 1 (.tmp 103) (some (.tmp 104)) none)⟩ (AT.alt ⟨(some 112), none, (.cpy 1 (.tmp 105) (.tmp 111))⟩ AT.done AT.nil) AT.nil) AT.nil)) AT.nil))))))))) [⟨(some 113), none, (.bin .add (.tmp 102) (.tmp 112))⟩, ⟨(some 13), none, (.mv (.tmp 113))⟩] [(some 102), (some 103), (some 104), (some 105), (some 106), (some 107), (some 108), (some 109), (some 110), (some 111), (some 112), (some 113), (some 13)]) (.seq (.reg [⟨(some 114), none, (.mv (.tmp 12))⟩, ⟨(some 115), none, (.mv (.tmp 13))⟩, ⟨(some 116), none, (.mv (.tmp 15))⟩, ⟨(some 117), none, (.ia 1 (.tmp 114) (.tmp 115))⟩, ⟨none, none, (.st 1 (.tmp 117) (.tmp 116))⟩]) (.reg [⟨(some 118), none, (.mv (.tmp 13))⟩, ⟨(some 119), none, (.bin .add (.tmp 118) (.const (.int .i64 1)))⟩, ⟨(some 13), none, (.mv (.tmp 119))⟩])))))) (.reg [⟨(some 90), none, (.mv (.tmp 14))⟩, ⟨(some 91), none, (.bin .add (.tmp 90) (.const (.int .i64 1)))⟩, ⟨(some 14), none, (.mv (.tmp 91))⟩])))))) (.seq (.reg [⟨(some 120), none, (.mv (.tmp 12))⟩, ⟨(some 121), none, (.cvBS (.tmp 120))⟩, ⟨(some 4), none, (.mv (.tmp 121))⟩]) .ret))))))))) := by rw [a00]; rfl
end Go.Am
end

section
namespace Go.Am
variable {hp : Hp}
def V.oI0 : V -> Bool
 | .c v => v.oneCell'
 | .lst _ => true
 | .rp _ => true
 | .nil => true
 | _ => false
def ka0 (cs : List V) : Bool := cs.all V.oI0
theorem eF0 {v : V} {cs : List V} : ka0 (v :: cs) = (v.oI0 && ka0 cs) := _root_.id rfl
section
variable {cs : List V} (h : ka0 cs = true)
include h
theorem kS0 (i : Id) : V.hasL i cs = false := by
 induction cs with
 | nil => simp
 | cons v cs ih =>
  rw [eF0, Bool.and_eq_true] at h
  simp [ih h.2]
  have hv := h.1
  cases v <;> first | (simp [V.oI0] at hv; done) | simp
theorem flatN_see (ks : List Id) (K : List V -> Prop) : V.seeL true ks hp cs K = K cs := by
 induction cs generalizing K with
 | nil => simp
 | cons v cs ih =>
  rw [eF0, Bool.and_eq_true] at h
  rw [qm0]
  simp only [hold, ih h.2]
  have hv := h.1
  cases v <;> first | (simp [V.oI0] at hv; done) | simp
theorem flatN_map (f : Id -> Option Id) (K : List V -> Prop) : c60 f cs K = K cs := by
 induction cs generalizing K with
 | nil => simp
 | cons v cs ih =>
  rw [eF0, Bool.and_eq_true] at h
  rw [lA0]
  simp only [hold, ih h.2]
  have hv := h.1
  cases v <;> first | (simp [V.oI0] at hv; done) | simp
theorem sg0 (ks : List Id) : V.bq0 ks cs = cs := by
 induction cs with
 | nil => simp
 | cons v cs ih =>
  rw [eF0, Bool.and_eq_true] at h
  simp [ih h.2]
  have hv := h.1
  cases v <;> first | (simp [V.oI0] at hv; done) | simp
end
end Go.Am
end

section
namespace Go.Am
set_option maxRecDepth 100000
theorem nV0 (s : ByteArray) (c : UInt8) : Ret prog mS0 [vS s, vS (bS [c])] (vI ((sB s).count c)) := by
 obtain ⟨cc, hc⟩ : ∃ c, Go.Proofs.Tryz.f210.body = some c := ⟨_, rfl⟩
 refine qB0 Go.Proofs.Tryz.func210 (by kernel_rfl) hc ?_
 intro H μ us w hv hW
 have r0 := hv.2 0 _ rfl
 have r1 := hv.2 1 _ rfl
 rw [mw0 hv]
 generalize us.getD 0 undef = p at r0
 generalize us.getD 1 undef = q at r1
 cases r0
 cases r1
 have hj := Go.Proofs.Any.strings_Count_one Go.Proofs.Tryz.lays138 s c w
 have hfin : Calls prog 210 #[.string s, .string (bS [c])] w fun e w' => e = .returned (.int .i64 ((sB s).count c : Nat)) /\ w' = w := hj
 refine Calls.mono hfin ?_
 rintro e w' ⟨he, rfl⟩
 exact ⟨⟨_, he, .c _⟩, Go.RowKit.Below.refl _ _⟩
attribute [local irreducible] vc vcIs vcI vcOp vcD vcDp vcDR vcT vcAR bV0 aY0 panD neG ne pv J bH0 bM0 bY0 bd0 evK evsK nthK objK boxK rowK bz0 intK strK aggK fnK ifcK ay0 az0 ldK ldaK iaK srcK stK appK appD b00 pvK bC0 aW0 bL0 bs0 slAV bG0
def j00 (c : UInt8) : Option Bs := if c = 92 then some [92, 92] else if c = 34 then some [92, 34] else none
def repV (c : UInt8) : V := match j00 c with
 | some t => .lst (t.map ao0)
 | none => .nil
def repC : List V := (List.range 256).map fun i => repV (UInt8.ofNat i)
def repB (s : Bs) : Bs := s.flatMap fun c => (j00 c).getD [c]
def qf0 : List Ob := [.box (repC ++ [.lst [aQ0 [34], aQ0 [92]]])]
theorem o70 : repC.length = 256 := by simp [repC]
theorem repC_get (c : UInt8) : (repC ++ [.lst [aQ0 [34], aQ0 [92]]])[c.toNat]? = some (repV c) := by
 have h := c.toNat_lt
 rw [List.getElem?_append_left (by rw [o70]; exact h)]
 simp [repC, List.getElem?_range h]
theorem na0 {vs : List V} {n : Nat} {v : V} {K : V -> Prop} (h : vs[n]? = some v) : nthK vs n K = K v := by
 rw [iV0]
 exact propext ⟨fun ⟨u, h1, h2⟩ => by rw [h] at h1; injection h1 with h1; subst h1; exact h2, fun hk => ⟨v, h, hk⟩⟩
theorem gt0 (c : UInt8) {K : V -> Prop} : nthK (repC ++ [.lst [aQ0 [34], aQ0 [92]]]) c.toNat K = K (repV c) := na0 (repC_get c)
theorem nb0 {K : V -> Prop} : nthK (repC ++ [.lst [aQ0 [34], aQ0 [92]]]) 34 K = K (.lst [[vU 92], [vU 34]]) := gt0 34
theorem nc0 {K : V -> Prop} : nthK (repC ++ [.lst [aQ0 [34], aQ0 [92]]]) 92 K = K (.lst [[vU 92], [vU 92]]) := gt0 92
theorem oW0 {K : V -> Prop} : nthK (repC ++ [.lst [aQ0 [34], aQ0 [92]]]) 256 K = K (.lst [aQ0 [34], aQ0 [92]]) := na0 (by
 rw [List.getElem?_append_right (by rw [o70]; omega), o70]; rfl)
theorem jA0 (l : List (List V)) : ka0 (repC ++ [.lst l]) = true := by
 unfold ka0
 rw [List.all_eq_true]
 intro v hv
 rcases List.mem_append.1 hv with hv | hv
 ·simp only [repC, List.mem_map] at hv
  obtain ⟨i, _, rfl⟩ := hv
  unfold repV
  split <;> rfl
 ·obtain rfl := List.mem_singleton.1 hv
  rfl
section
variable {l : List (List V)} {Ks : List V -> Prop} {hp : Hp}
@[simp] theorem rep_has0 {i : Id} : V.hasL i (repC ++ [.lst l]) = false := kS0 (jA0 l) i
@[simp] theorem rep_see0 {ks : List Id} : V.seeL true ks hp (repC ++ [.lst l]) Ks = Ks (repC ++ [.lst l]) := flatN_see (jA0 l) ks Ks
@[simp] theorem rep_map0 {f : Id -> Option Id} : c60 f (repC ++ [.lst l]) Ks = Ks (repC ++ [.lst l]) := flatN_map (jA0 l) f Ks
@[simp] theorem rep_hide0 {ks : List Id} : V.bq0 ks (repC ++ [.lst l]) = repC ++ [.lst l] := sg0 (jA0 l) ks
end
def cntN (s : Bs) (i : Nat) : Nat := (if 1 <= i then s.count 34 else 0) + (if 2 <= i then s.count 92 else 0)
theorem cntN0 (s : Bs) : cntN s 0 = 0 := rfl
theorem cntN1 (s : Bs) : cntN s 1 = s.count 34 := rfl
theorem pz0 (s : Bs) : cntN s 2 = s.count 34 + s.count 92 := rfl
theorem mt0 : repB [] = [] := rfl
theorem qe0 (s : Bs) (c : UInt8) : repB (s ++ [c]) = repB s ++ (j00 c).getD [c] := by simp [repB]
theorem qb0 (s : Bs) (c : UInt8) : repB (c :: s) = (j00 c).getD [c] ++ repB s := by simp [repB]
theorem o60 (s : Bs) : (repB s).length = s.length + cntN s 2 := by
 rw [pz0]
 induction s with
 | nil => rfl
 | cons c s ih =>
  rw [qb0, List.length_append, ih, List.count_cons, List.count_cons]
  unfold j00
  by_cases h1 : c = 92
  ·subst h1; simp; omega
  ·by_cases h2 : c = 34
   ·subst h2; simp; omega
   ·simp [h1, h2]; omega
theorem qd0 {s : Bs} (h : cntN s 2 = 0) : repB s = s := by
 rw [pz0] at h
 induction s with
 | nil => rfl
 | cons c s ih =>
  rw [List.count_cons, List.count_cons] at h
  have h1 : c ≠ 34 := by rintro rfl; simp at h
  have h2 : c ≠ 92 := by rintro rfl; simp at h
  rw [qb0, ih (by omega)]
  simp [j00, h1, h2]
theorem qc0 (s : Bs) (i : Nat) : (repB (s.take i)).length <= (repB s).length := by
 have : repB s = repB (s.take i) ++ repB (s.drop i) := by
  unfold repB; rw [<- List.flatMap_append, List.take_append_drop]
 rw [this, List.length_append]; omega
theorem row2 {α : Type} {A : List α} {L N : Nat} {z : α} (hA : A.length = L) : List.drop (L + 2) (A ++ List.replicate (N - L) z) = List.replicate (N - (L + 2)) z := by
 subst hA
 rw [<- List.drop_drop, List.drop_left' rfl, List.drop_replicate, Nat.sub_sub]
theorem row1 {α : Type} {L N : Nat} {a z : α} (hL : L + 1 <= N) : (List.replicate (N - L) z).set 0 a = a :: List.replicate (N - (L + 1)) z := by
 obtain ⟨k, hk⟩ : ∃ k, N - L = k + 1 := ⟨N - L - 1, by omega⟩
 rw [hk, List.replicate_succ, List.set_cons_zero, show N - (L + 1) = k by omega]
set_option maxHeartbeats 1600000 in
theorem pw0 (s : Bs) (hs : s.length < 2 ^ 39) : J prog bK0 [.bp (.e 0) 0, vS (bS s)] qf0 (· = .ret (vS (bS (repB s))) qf0) := by
 have hsz : (bS s).size = s.length := rfl
 have h34 : s.count 34 <= s.length := List.count_le_length
 have h92 : s.count 92 <= s.length := List.count_le_length
 refine at0 dq0.alt (by simp [qf0]) ?_
 refine rS8 @dc0 @qf0.eq_1 @hpE.eq_1 @hpE.eq_2 @oW0 @nb0 @nc0 hsz ?_
 by_cases hlong : (16 : Int) <= s.length
 ·refine rS3 hlong @oW0 hsz ?_
  refine aN0 2 (fun i => [(32, vI i), (31, vI 2), (30, .lst [aQ0 [34], aQ0 [92]]), (5, vI (s.length + cntN s i)), (6, vB (decide (cntN s i ≠ 0))), (0, .bp (.e 0) 0), (1, vS (bS s))])
   (fun i => [(.e 0, .box (repC ++ [.lst [aQ0 [34], aQ0 [92]]]))]) (Wk.subs (by simp [cntN]) (by simp)) ?_
  intro i hi
  have hi3 : i = 0 \/ i = 1 \/ i = 2 := by omega
  rcases hi3 with rfl | rfl | rfl
  ·refine rS1 hsz ?_
   refine ak0 ?_; simp; refine ah0 (nV0 (bS s) 34) (by simp) ?_
   by_cases h0 : s.count 34 = 0
   ·refine rS2 h0 @nb0 ?_
    refine .of (by omega) (Wk.subs (by simp [cntN, h0]) (by simp))
   ·refine rS3 h0 @nb0 @cntN0 ?_
    refine .of (by omega) (Wk.subs (by simp [cntN, h0]) (by simp))
  ·refine rS1 hsz ?_
   refine ak0 ?_; simp; refine ah0 (nV0 (bS s) 92) (by simp) ?_
   by_cases h0 : s.count 92 = 0
   ·refine rS2 h0 @nc0 ?_
    refine .of (by omega) (Wk.subs (by simp [cntN, h0]) (by simp))
   ·refine rS3 h0 @nc0 @cntN1 ?_
    refine .of (by omega) (Wk.subs (by simp [cntN, h0]; omega) (by simp))
  ·have hlen := o60 s
   have hcn : cntN s 2 <= 2 * s.length := by rw [pz0]; omega
   by_cases hz : cntN s 2 = 0
   ·have he := qd0 hz
    refine rS3 hsz hz he ?_
    refine ax0 [] ?_
    exact rT1 he
   ·refine rS2 hsz hz ?_
    have hN : (s.length : Int) + (cntN s 2 : Nat) = ((repB s).length : Nat) := by omega
    refine aN0 s.length (fun i => [(14, vI i), (13, vI (repB (s.take i)).length), (12, .arr (.l 85 0) 0 (repB s).length), (0, .bp (.e 0) 0), (1, vS (bS s))])
     (fun i => [(.l 85 0, .row 5 1 true ((repB (s.take i) ++ List.replicate ((repB s).length - (repB (s.take i)).length) 0).map ao0)), (.e 0, .box (repC ++ [.lst [aQ0 [34], aQ0 [92]]]))])
     (Wk.subs (by simp [mt0, hlen]; omega) (by simp [mt0, ao0, hlen]; omega)) ?_
    intro i hi
    by_cases hlt : i < s.length
    ·have hlt' : (i : Int) < s.length := by omega
     have h256 : (s[i].toNat : Int) < 256 := by have := s[i].toNat_lt; omega
     have htk : s.take (i + 1) = s.take i ++ [s[i]] := by rw [List.take_add_one, List.getElem?_eq_getElem hlt]; rfl
     have hsn := qe0 (s.take i) s[i]
     rw [<- htk] at hsn
     have hmo := qc0 s (i + 1)
     rw [hsn, List.length_append] at hmo
     by_cases h1 : s[i] = 92
     ·have hr : j00 s[i] = some [92, 92] := by rw [h1]; rfl
      have hv : repV s[i] = .lst [[vU 92], [vU 92]] := by rw [h1]; rfl
      rw [hr] at hsn hmo
      simp only [Option.getD_some, List.length_cons, List.length_nil] at hsn hmo
      have hcl : (List.map ao0 (repB (List.take i s))).length = (repB (List.take i s)).length := List.length_map ..
      have hfin := row2 (N := (repB s).length) (z := ao0 0) hcl
      refine rS5 hlt' hsz @gt0 h256 hv ?_
      rw [hfin]
      refine ⟨?_, ?_, ?_⟩ <;> exact .of hlt (Wk.subs (by simp [hsn]) (by simp [hsn, ao0]))
     by_cases h2 : s[i] = 34
     ·have hr : j00 s[i] = some [92, 34] := by rw [h2]; rfl
      have hv : repV s[i] = .lst [[vU 92], [vU 34]] := by rw [h2]; rfl
      rw [hr] at hsn hmo
      simp only [Option.getD_some, List.length_cons, List.length_nil] at hsn hmo
      have hcl : (List.map ao0 (repB (List.take i s))).length = (repB (List.take i s)).length := List.length_map ..
      have hfin := row2 (N := (repB s).length) (z := ao0 0) hcl
      refine rS5 hlt' hsz @gt0 h256 hv ?_
      rw [hfin]
      refine ⟨?_, ?_, ?_⟩ <;> exact .of hlt (Wk.subs (by simp [hsn]) (by simp [hsn, ao0]))
     ·have hr : j00 s[i] = none := by unfold j00; rw [if_neg h1, if_neg h2]
      have hv : repV s[i] = .nil := by unfold repV; rw [hr]
      rw [hr] at hsn hmo
      simp only [Option.getD_none, List.length_cons, List.length_nil] at hsn hmo
      have hcl : (List.map ao0 (repB (List.take i s))).length = (repB (List.take i s)).length := List.length_map ..
      have hfin := row1 (a := ao0 s[i]) (z := ao0 0) (by omega : (repB (List.take i s)).length + 1 <= (repB s).length)
      have hget : (List.map ao0 (repB (List.take i s)) ++ List.replicate ((repB s).length - (repB (List.take i s)).length) (ao0 0))[(repB (List.take i s)).length]? = some (ao0 0) := by
       rw [List.getElem?_append_right (by omega), hcl, Nat.sub_self, List.getElem?_replicate]
       rw [if_pos (by omega)]
      refine rS5 hlt' hsz @gt0 h256 hv ?_
      rw [aP0 hget]
      have hfin' := hfin
      unfold ao0 at hfin'
      refine rS2 @ao0.eq_1 hfin' ?_
      exact .of hlt (Wk.subs (by simp [hsn]) (by simp [hsn, ao0]))
    ·have hge' : ¬ (i : Int) < s.length := by omega
     have : i = s.length := by omega
     subst this
     refine rS2 hge' hsz ?_
     refine ⟨bS (repB s), (ln0 _).symm, ?_⟩
     refine ax0 [] ?_
     exact rT0
 ·refine rS3 hlong @oW0 hsz ?_
  have hlen := o60 s
  have hcn : cntN s 2 <= 2 * s.length := by rw [pz0]; omega
  have hcs : ∀ (l : Bs) (c : UInt8), cntN (l ++ [c]) 2 = cntN l 2 + if c = 34 \/ c = 92 then 1 else 0 := by
   intro l c
   rw [pz0, pz0, List.count_append, List.count_append, List.count_singleton, List.count_singleton]
   by_cases h1 : c = 34
   ·subst h1; simp; omega
   ·by_cases h2 : c = 92
    ·subst h2; simp; omega
    ·simp [h1, h2]
  have hct : ∀ i, cntN (s.take i) 2 <= 2 * s.length := by
   intro i
   have a : (s.take i).count 34 <= (s.take i).length := List.count_le_length
   have b : (s.take i).count 92 <= (s.take i).length := List.count_le_length
   rw [List.length_take] at a b
   rw [pz0]; omega
  refine aN0 s.length (fun i => [(10, vI i), (5, vI (s.length + cntN (s.take i) 2)), (6, vB (decide (cntN (s.take i) 2 ≠ 0))), (0, .bp (.e 0) 0), (1, vS (bS s))])
   (fun i => [(.e 0, .box (repC ++ [.lst [aQ0 [34], aQ0 [92]]]))]) (Wk.subs (by simp [cntN]) (by simp)) ?_
  intro i hi
  by_cases hlt : i < s.length
  ·have hlt' : (i : Int) < s.length := by omega
   have h256 : (s[i].toNat : Int) < 256 := by have := s[i].toNat_lt; omega
   have htk : s.take (i + 1) = s.take i ++ [s[i]] := by rw [List.take_add_one, List.getElem?_eq_getElem hlt]; rfl
   have hci := hct i
   have hsn := hcs (s.take i) s[i]
   rw [<- htk] at hsn
   by_cases h1 : s[i] = 92
   ·have hv : repV s[i] = .lst [[vU 92], [vU 92]] := by rw [h1]; rfl
    rw [if_pos (.inr h1)] at hsn
    refine rS5 hlt' hsz @gt0 h256 hv ?_
    exact .of hlt (Wk.subs (by simp [hsn]; omega) (by simp))
   by_cases h2 : s[i] = 34
   ·have hv : repV s[i] = .lst [[vU 92], [vU 34]] := by rw [h2]; rfl
    rw [if_pos (.inl h2)] at hsn
    refine rS5 hlt' hsz @gt0 h256 hv ?_
    exact .of hlt (Wk.subs (by simp [hsn]; omega) (by simp))
   ·have hv : repV s[i] = .nil := by unfold repV j00; rw [if_neg h1, if_neg h2]
    rw [if_neg (by rintro (h | h); exact h2 h; exact h1 h)] at hsn
    refine rS5 hlt' hsz @gt0 h256 hv ?_
    exact .of hlt (Wk.subs (by simp [hsn]) (by simp))
  ·have hge' : ¬ (i : Int) < s.length := by omega
   have : i = s.length := by omega
   subst this
   have hta : cntN (List.take s.length s) 2 = cntN s 2 := by rw [List.take_length]
   refine rS3 hge' hsz hta ?_
   by_cases hz : cntN s 2 = 0
   ·have he := qd0 hz
    refine rS4 hsz hz he hta ?_
    refine ax0 [] ?_
    exact rT1 he
   ·refine rS3 hsz hz hta ?_
    have hN : (s.length : Int) + (cntN s 2 : Nat) = ((repB s).length : Nat) := by omega
    refine aN0 s.length (fun i => [(14, vI i), (13, vI (repB (s.take i)).length), (12, .arr (.l 85 0) 0 (repB s).length), (0, .bp (.e 0) 0), (1, vS (bS s))])
     (fun i => [(.l 85 0, .row 5 1 true ((repB (s.take i) ++ List.replicate ((repB s).length - (repB (s.take i)).length) 0).map ao0)), (.e 0, .box (repC ++ [.lst [aQ0 [34], aQ0 [92]]]))])
     (Wk.subs (by simp [mt0, hlen]; omega) (by simp [mt0, ao0, hlen]; omega)) ?_
    intro i hi
    by_cases hlt : i < s.length
    ·have hlt' : (i : Int) < s.length := by omega
     have h256 : (s[i].toNat : Int) < 256 := by have := s[i].toNat_lt; omega
     have htk : s.take (i + 1) = s.take i ++ [s[i]] := by rw [List.take_add_one, List.getElem?_eq_getElem hlt]; rfl
     have hsn := qe0 (s.take i) s[i]
     rw [<- htk] at hsn
     have hmo := qc0 s (i + 1)
     rw [hsn, List.length_append] at hmo
     by_cases h1 : s[i] = 92
     ·have hr : j00 s[i] = some [92, 92] := by rw [h1]; rfl
      have hv : repV s[i] = .lst [[vU 92], [vU 92]] := by rw [h1]; rfl
      rw [hr] at hsn hmo
      simp only [Option.getD_some, List.length_cons, List.length_nil] at hsn hmo
      have hcl : (List.map ao0 (repB (List.take i s))).length = (repB (List.take i s)).length := List.length_map ..
      have hfin := row2 (N := (repB s).length) (z := ao0 0) hcl
      refine rS5 hlt' hsz @gt0 h256 hv ?_
      rw [hfin]
      refine ⟨?_, ?_, ?_⟩ <;> exact .of hlt (Wk.subs (by simp [hsn]) (by simp [hsn, ao0]))
     by_cases h2 : s[i] = 34
     ·have hr : j00 s[i] = some [92, 34] := by rw [h2]; rfl
      have hv : repV s[i] = .lst [[vU 92], [vU 34]] := by rw [h2]; rfl
      rw [hr] at hsn hmo
      simp only [Option.getD_some, List.length_cons, List.length_nil] at hsn hmo
      have hcl : (List.map ao0 (repB (List.take i s))).length = (repB (List.take i s)).length := List.length_map ..
      have hfin := row2 (N := (repB s).length) (z := ao0 0) hcl
      refine rS5 hlt' hsz @gt0 h256 hv ?_
      rw [hfin]
      refine ⟨?_, ?_, ?_⟩ <;> exact .of hlt (Wk.subs (by simp [hsn]) (by simp [hsn, ao0]))
     ·have hr : j00 s[i] = none := by unfold j00; rw [if_neg h1, if_neg h2]
      have hv : repV s[i] = .nil := by unfold repV; rw [hr]
      rw [hr] at hsn hmo
      simp only [Option.getD_none, List.length_cons, List.length_nil] at hsn hmo
      have hcl : (List.map ao0 (repB (List.take i s))).length = (repB (List.take i s)).length := List.length_map ..
      have hfin := row1 (a := ao0 s[i]) (z := ao0 0) (by omega : (repB (List.take i s)).length + 1 <= (repB s).length)
      have hget : (List.map ao0 (repB (List.take i s)) ++ List.replicate ((repB s).length - (repB (List.take i s)).length) (ao0 0))[(repB (List.take i s)).length]? = some (ao0 0) := by
       rw [List.getElem?_append_right (by omega), hcl, Nat.sub_self, List.getElem?_replicate]
       rw [if_pos (by omega)]
      refine rS5 hlt' hsz @gt0 h256 hv ?_
      rw [aP0 hget]
      have hfin' := hfin
      unfold ao0 at hfin'
      refine rS2 @ao0.eq_1 hfin' ?_
      exact .of hlt (Wk.subs (by simp [hsn]) (by simp [hsn, ao0]))
    ·have hge' : ¬ (i : Int) < s.length := by omega
     have : i = s.length := by omega
     subst this
     refine rS2 hge' hsz ?_
     refine ⟨bS (repB s), (ln0 _).symm, ?_⟩
     refine ax0 [] ?_
     exact rT0
end Go.Am
end

section
namespace Go.Am
set_option maxRecDepth 100000
attribute [local irreducible] vc vcIs vcI vcOp vcD vcDp vcDR vcT vcAR bV0 aY0 panD neG ne pv J bH0 bM0 bY0 bd0 evK evsK nthK objK boxK rowK bz0 intK strK aggK fnK ifcK ay0 az0 ldK ldaK iaK srcK stK appK appD b00 pvK bC0 aW0 bL0 bs0 slAV bG0
def repS (k : Nat) : List V := (List.range 256).map fun i => if (1 <= k /\ i = 34) \/ (2 <= k /\ i = 92) then repV (UInt8.ofNat i) else .nil
theorem repS_two : repS 2 = repC := by rfl
abbrev old4 : List (List V) := [aQ0 [92], aQ0 [92, 92], aQ0 [34], aQ0 [92, 34]]
def aU0 (st : Int) (r : V) (l : V) : Ob := .box [.c (.int .u32 0), .c (.int .i32 st), .c (.int .u32 0), r, l]
def qg0 (k : Nat) : List (List V) := [aQ0 [34], aQ0 [92]].take k
def repH (st : Int) (k : Nat) : Hp := if k = 2 then [(.l 11 0, .box (repC ++ [.lst [aQ0 [34], aQ0 [92]]])), (.e 0, aU0 st (.c .nilIface) (.lst old4))]
 else [(.l 11 0, .box (repS k ++ [.arr (.l 999 0) 0 k])), (.l 999 0, .row 9 1 true (qg0 k)), (.e 0, aU0 st (.c .nilIface) (.lst old4))]
theorem q50 (x : V) {K : V -> Prop} : nthK (repS 0 ++ [x]) 34 K = K .nil := na0 (by rfl)
theorem q60 (x : V) {K : V -> Prop} : nthK (repS 1 ++ [x]) 92 K = K .nil := na0 (by rfl)
theorem o80 (k : Nat) (x : V) {K : V -> Prop} : nthK (repS k ++ [x]) 256 K = K x := na0 (by
 rw [List.getElem?_append_right (by simp [repS])]; simp [repS])
theorem qP0 {i : Id} {l : List V} {x : V} : V.hasL i (l ++ [x]) = (V.hasL i l || V.has i x) := by
 induction l with
 | nil => simp
 | cons v l ih => simp [ih, Bool.or_assoc]
theorem nk0 (k : Nat) : ka0 (repS k) = true := by
 unfold ka0 repS
 rw [List.all_map, List.all_eq_true]
 intro i _
 show V.oI0 (if _ then _ else _) = true
 split
 ·unfold repV; split <;> rfl
 ·rfl
theorem rH0 {k : Nat} {i : Id} {x : V} : V.hasL i (repS k ++ [x]) = V.has i x := by rw [qP0, kS0 (nk0 k)]; rfl
theorem rJ0 {k : Nat} {x : V} : (repS k ++ [x]).length = 257 := by simp [repS]
theorem rI0 (k : Nat) : (repS k).length = 256 := by simp [repS]
theorem kb0 {f : Id -> Option Id} {x : V} : ∀ {l : List V} {K : List V -> Prop}, ka0 l = true -> c60 f (l ++ [x]) K = c60 f [x] fun us => K (l ++ us)
 | [], K, _ => by simp
 | v :: l, K, h => by
  rw [eF0, Bool.and_eq_true] at h
  rw [List.cons_append, lA0]
  simp only [hold, kb0 h.2]
  have hv := h.1
  cases v <;> first | (simp [V.oI0] at hv; done) | simp
theorem rm0 {i : Id} {xs : List (List V)} : ∀ {l : List V}, ka0 l = true -> l.map (V.fz i xs) = l
 | [], _ => rfl
 | v :: l, h => by
  rw [eF0, Bool.and_eq_true] at h
  rw [List.map_cons, rm0 h.2]
  have hv := h.1
  cases v <;> first | (simp [V.oI0] at hv; done) | simp [V.fz]
theorem repC_flat : ka0 repC = true := by rw [<- repS_two]; exact nk0 2
theorem box1 (x y : V) : List.take 34 (List.take 256 (repS 0 ++ [x]) ++ y :: List.drop 257 (repS 0 ++ [x])) ++ V.lst (a30 (bS [92, 34])) :: List.drop 35 (List.take 256 (repS 0 ++ [x]) ++ y :: List.drop 257 (repS 0 ++ [x])) = repS 1 ++ [y] := by rfl
theorem box2 (x y : V) : List.take 92 (List.take 256 (repS 1 ++ [x]) ++ y :: List.drop 257 (repS 1 ++ [x])) ++ V.lst (a30 (bS [92, 92])) :: List.drop 93 (List.take 256 (repS 1 ++ [x]) ++ y :: List.drop 257 (repS 1 ++ [x])) = repC ++ [y] := by rfl
theorem o4_0 {K : List V -> Prop} : fZ0 old4 0 K = K (aQ0 [92]) := aP0 rfl
theorem o4_1 {K : List V -> Prop} : fZ0 old4 1 K = K (aQ0 [92, 92]) := aP0 rfl
theorem o4_2 {K : List V -> Prop} : fZ0 old4 2 K = K (aQ0 [34]) := aP0 rfl
theorem o4_3 {K : List V -> Prop} : fZ0 old4 3 K = K (aQ0 [92, 34]) := aP0 rfl
set_option maxHeartbeats 3200000 in
theorem r60 (st : Int) : J prog dK0 [.bp (.e 0) 0] [aU0 st (.c .nilIface) (.lst old4)] (· = .ret (.ifc 209 (.bp (.e 1) 0)) [aU0 st (.c .nilIface) (.lst old4), .box (repC ++ [.lst [aQ0 [34], aQ0 [92]]])]) := by
 refine at0 g50 (by simp [aU0]) ?_
 refine rS5 @du0.eq_1 @aU0.eq_1 @hpE.eq_1 @hpE.eq_2 @br0 ?_
 refine aN0 2 (fun i => [(5, vI (2 * i)), (4, vB (decide (i = 0))), (3, .lst old4), (0, .bp (.e 0) 0), (2, .c .nilIface)]) (fun i => [(.e 0, aU0 st (.c .nilIface) (.lst old4))]) (Wk.subs (by simp) (by simp [aU0])) ?_
 intro i hi
 have hi3 : i = 0 \/ i = 1 \/ i = 2 := by omega
 rcases hi3 with rfl | rfl | rfl
 ·refine rS7 @aU0.eq_1 @br0 @dn0 @o4_0 @o4_1 @o4_2 @o4_3 ?_
  exact .of (by omega) (Wk.subs (by simp) (by simp))
 ·refine rS7 @aU0.eq_1 @br0 @dn0 @o4_0 @o4_1 @o4_2 @o4_3 ?_
  exact .of (by omega) (Wk.subs (by simp) (by simp))
 ·refine rS7 @aU0.eq_1 @br0 @dn0 @o4_0 @o4_1 @o4_2 @o4_3 ?_
  refine aN0 2 (fun k => [(12, vI (2 - 2 * k)), (11, .bp (.l 11 0) 0), (3, .lst old4), (0, .bp (.e 0) 0), (2, .c .nilIface)]) (repH st)
   (Wk.rens (.l 94 0) (.l 999 0) rfl (by simp) (by simp [renF]) (by simp [renF, bO0, repH, qg0, aU0]; rfl)) ?_
  intro k hk
  have hk3 : k = 0 \/ k = 1 \/ k = 2 := by omega
  rcases hk3 with rfl | rfl | rfl
  ·simp +contextual (maxSteps := 2000000) (disch := omega) [-Int.not_lt, -Int.not_le, -Nat.not_lt, -Nat.not_le, sx, repH, aU0, dn0, o4_0, o4_1, o4_2, o4_3, q50, q60, o80, qg0, rH0, rJ0]
   refine ⟨bS [34], rfl, by simp [rI0], by simp [rI0], ?_⟩
   rw [box1]
   refine .of (by omega) (Wk.rens (.l 124 0) (.l 999 0) rfl (by simp) (by simp [renF]) (by simp [renF, bO0, repH, qg0, aU0, kb0 (nk0 1)]))
  ·simp +contextual (maxSteps := 2000000) (disch := omega) [-Int.not_lt, -Int.not_le, -Nat.not_lt, -Nat.not_le, sx, repH, aU0, dn0, o4_0, o4_1, o4_2, o4_3, q50, q60, o80, qg0, rH0, rJ0]
   refine ⟨bS [92], rfl, by simp [rI0], by simp [rI0], ?_⟩
   rw [box2]
   refine .of (by omega) (Wk.frz (.l 124 0) rfl (by simp [V.fz]) ?_)
   simp [repH, Ob.fz, V.fz, aU0, rm0 repC_flat]
  ·refine rS10 @repH.eq_1 @aU0.eq_1 @dn0 @o4_0 @o4_1 @o4_2 @o4_3 @q50 @q60 @o80 ?_
   refine ax0 [.l 11 0] ?_
   exact rT0
end Go.Am
end

section
namespace Go.Am
variable {P : Program} {H : Imm} {μ : Mu} {w w' w'' : World}
theorem da0 {b j : Nat} {x : Value} {cs : Array Value} {ty : TypeId} {fz : Nat × Nat} (h : w.heap[b]? = some (.cells cs ty fz)) :
  (w.setCell ⟨b, j, none⟩ x).heap[b]? = some (.cells (cs.setIfInBounds j x) ty fz) := by
 simp [World.setCell, Array.getElem?_modify, h]
theorem jf0 {b b' j : Nat} {x : Value} (h : b' ≠ b) : (w.setCell ⟨b, j, none⟩ x).heap[b']? = w.heap[b']? := by
 have h' : ¬ b = b' := fun e => h e.symm
 simp [World.setCell, Array.getElem?_modify, h']
theorem ll0 {b j : Nat} {cs : Array Value} {ty : TypeId} (h : w.heap[b]? = some (.cells cs ty (0, 0))) : w.frozen? ⟨b, j, none⟩ = false := by
 simp [World.frozen?, h]
structure Chg (b : Nat) (w w' : World) : Prop where
 os : w'.os = w.os
 tape : w'.tape = w.tape
 output : w'.output = w.output
 size : w'.heap.size = w.heap.size
 keep : ∀ b', b' ≠ b -> w'.heap[b']? = w.heap[b']?
theorem Chg.refl (b : Nat) (w : World) : Chg b w w := ⟨rfl, rfl, rfl, rfl, fun _ _ => rfl⟩
theorem Chg.trans {b : Nat} (h : Chg b w w') (k : Chg b w' w'') : Chg b w w'' :=
 ⟨k.os.trans h.os, k.tape.trans h.tape, k.output.trans h.output, k.size.trans h.size, fun b' hb => (k.keep b' hb).trans (h.keep b' hb)⟩
theorem Chg.set (b j : Nat) (x : Value) (w : World) : Chg b w (w.setCell ⟨b, j, none⟩ x) :=
 ⟨rfl, rfl, rfl, by simp, fun b' hb => jf0 hb⟩
theorem Chg.drew (b : Nat) (w : World) : Chg b w w.drew := ⟨rfl, rfl, rfl, rfl, fun _ _ => rfl⟩
theorem ObOk.chg {b : Nat} {i : Id} {o : Ob} (h : ObOk H μ w i o) (hc : Chg b w w') (hb : ∀ blk, μ i = some blk -> o.own = true -> blk.b ≠ b) (hI : H b = none) : ObOk H μ w' i o := by
 cases o with
 | gone => trivial
 | box cs =>
  obtain ⟨blk, vals, ty, h1, h2, h3⟩ := h
  exact ⟨blk, vals, ty, h1, (hc.keep _ (hb _ h1 rfl)).trans h2, h3⟩
 | row ty sz own xs =>
  rcases h with h | ⟨blk, vals, h1, h2, h3, h4, h5, h6, h7, h8, h9⟩
  ·exact .inl h
  ·refine .inr ⟨blk, vals, h1, h2, (hc.keep _ ?_).trans h3, h4, h5, h6, h7, h8, h9⟩
   cases own with
   | true => exact hb _ h1 rfl
   | false => intro e; have := h8 rfl; rw [e, hI] at this; cases this
 | mpo kd kvs =>
  obtain ⟨blk, es, clk, h1, h2, h3⟩ := h
  exact ⟨blk, es, clk, h1, (hc.keep _ (hb _ h1 rfl)).trans h2, h3⟩
theorem Wd.poke {cs : List V} {blk : Blk} {vals : Array Value} {ty : TypeId} {j : Nat} {v : V} {x : Value} (hW : Wd H μ (hpE 0 [.box cs]) w) (hμ : μ (.e 0) = some blk)
  (hb : w.heap[blk.b]? = some (.cells vals ty (0, 0))) (hj : j < vals.size) (hx : R H μ v x) : Wd H μ (hpE 0 [.box (cs.set j v)]) (w.setCell ⟨blk.b, j, none⟩ x) := by
 obtain ⟨blk', vals', ty', h1, h2, h3, h4, h5⟩ := hW.ob (.e 0) _ rfl
 rw [hμ] at h1; injection h1 with h1; subst h1
 rw [hb] at h2; injection h2 with h2; injection h2 with e1 e2 e3; subst e1; subst e2
 refine ⟨fun i o hl => ?_, fun i k oi ok bi bk hi _ hk _ _ _ _ => ?_, fun b c h => ?_, hW.glo⟩
 ·have hi : i = .e 0 /\ o = .box (cs.set j v) := by
   simp only [hpE, List.lookup_cons] at hl
   split at hl
   ·rename_i h; injection hl with hl; exact ⟨by simpa using h, hl.symm⟩
   ·simp at hl
  obtain ⟨rfl, rfl⟩ := hi
  refine ⟨blk, vals.setIfInBounds j x, ty, hμ, da0 hb, by simp [h3], h4, fun k u hk => ?_⟩
  rw [List.getElem?_set] at hk
  split at hk
  ·rename_i e; subst e
   split at hk
   ·injection hk with hk; subst hk
    exact ⟨x, by simp [Array.getElem?_setIfInBounds, hj], hx⟩
   ·cases hk
  ·rename_i e
   obtain ⟨y, y1, y2⟩ := h5 k u hk
   exact ⟨y, by rw [Array.getElem?_setIfInBounds]; simpa [e] using y1, y2⟩
 ·have hi' : i = .e 0 := by
   simp only [hpE, List.lookup_cons] at hi
   split at hi
   ·rename_i h; simpa using h
   ·simp at hi
  have hk' : k = .e 0 := by
   simp only [hpE, List.lookup_cons] at hk
   split at hk
   ·rename_i h; simpa using h
   ·simp at hk
  rw [hi', hk']
 ·obtain ⟨t, fz, e⟩ := hW.imm b c h
  have hne : b ≠ blk.b := fun e => by rw [e, h4.1] at h; cases h
  exact ⟨t, fz, (jf0 hne).trans e⟩
theorem Wd.second {o : Ob} {cs : List V} {blk : Blk} (hW : Wd H μ (hpE 0 [o, .box cs]) w) (ho : o.own = true) (hμ : μ (.e 0) = some blk) (hI : H blk.b = none) (hc : Chg blk.b w w')
  (hcs : ∀ i v, v ∈ cs -> v.has i = false) : ∃ blk', μ (.e 1) = some blk' /\ blk'.b ≠ blk.b /\ Wd H (fun i => if i = .e 0 then some blk' else μ i) (hpE 0 [.box cs]) w' := by
 obtain ⟨blk', vals, ty, h1, h2, h3, h4, h5⟩ := hW.ob (.e 1) (.box cs) (by simp [hpE, List.lookup_cons]; rfl)
 have hne : blk'.b ≠ blk.b := fun e => by
  have := hW.inj (.e 1) (.e 0) (.box cs) o blk' blk (by simp [hpE, List.lookup_cons]; rfl) rfl rfl ho h1 hμ e
  simp at this
 refine ⟨blk', h1, hne, fun i o' hl => ?_, fun i k oi ok bi bk hi _ hk _ _ _ _ => ?_, fun b c h => ?_, hW.glo⟩
 ·have hi : i = .e 0 /\ o' = .box cs := by
   simp only [hpE, List.lookup_cons] at hl
   split at hl
   ·rename_i h; injection hl with hl; exact ⟨by simpa using h, hl.symm⟩
   ·simp at hl
  obtain ⟨rfl, rfl⟩ := hi
  refine ⟨blk', vals, ty, by simp, (hc.keep _ hne).trans h2, h3, h4, fun k u hk => ?_⟩
  obtain ⟨y, y1, y2⟩ := h5 k u hk
  exact ⟨y, y1, y2.mono (Imm.le_refl H) fun i hi => by rw [hcs i u (List.mem_of_getElem? hk)] at hi; cases hi⟩
 ·have hi' : i = .e 0 := by
   simp only [hpE, List.lookup_cons] at hi
   split at hi
   ·rename_i h; simpa using h
   ·simp at hi
  have hk' : k = .e 0 := by
   simp only [hpE, List.lookup_cons] at hk
   split at hk
   ·rename_i h; simpa using h
   ·simp at hk
  rw [hi', hk']
 ·obtain ⟨t, fz, e⟩ := hW.imm b c h
  have hne : b ≠ blk.b := fun e => by rw [e, hI] at h; cases h
  exact ⟨t, fz, (hc.keep _ hne).trans e⟩
end Go.Am
end

section
namespace Go.Am
set_option maxRecDepth 100000
theorem qa0 (w : World) : (callFunc 167 #[]).run Go.Proofs.Tryz.prog w = .ok (.value (.tuple #[])) w := run_call_mark0 Go.Proofs.Tryz.func167 (by kernel_rfl) (by kernel_rfl) (by kernel_rfl) .disable (by kernel_rfl) w
theorem rF0 (w : World) : (callFunc 169 #[]).run Go.Proofs.Tryz.prog w = .ok (.value (.tuple #[])) w := run_call_mark0 Go.Proofs.Tryz.func169 (by kernel_rfl) (by kernel_rfl) (by kernel_rfl) .enable (by kernel_rfl) w
theorem q_acquire (a : Addr) (w : World) : (callFunc 170 #[.pointer (some a)]).run Go.Proofs.Tryz.prog w = .ok (.value (.tuple #[])) w := run_call_marked Go.Proofs.Tryz.func170 (by kernel_rfl) (by kernel_rfl) (by kernel_rfl) .acquire (by kernel_rfl) a w
theorem nR0 (a : Addr) (w : World) : (callFunc 172 #[.pointer (some a)]).run Go.Proofs.Tryz.prog w = .ok (.value (.tuple #[])) w := run_call_marked Go.Proofs.Tryz.func172 (by kernel_rfl) (by kernel_rfl) (by kernel_rfl) .releaseMerge (by kernel_rfl) a w
theorem mj0 (a : Addr) (x : Value) (u : FrameMode) (w : World) (hc : w.cell? a = some x) (hz : w.frozen? a = false) :
  CallsD Go.Proofs.Tryz.prog 156 #[.pointer (some a), .bool true] u w fun e u' w' => u' = u /\ (e = .returned (.tuple #[]) /\ w' = w.drew.setCell a (.int .u32 1)) := by
 have hc' : w.drew.cell? a = some x := by go_simp
 have hz' : w.drew.frozen? a = false := by go_simp
 have hst := run_call_store (P := Go.Proofs.Tryz.prog) Go.Proofs.Tryz.func163 (by kernel_rfl) (by kernel_rfl) (by kernel_rfl) (by kernel_rfl) (k := .u32) (y := 1) hc' hz'
 go_enter_d Go.Proofs.Tryz.func156, Go.Proofs.Tryz.ntmps156
 go_wp2
 go_region_calls
 all_goals (go_end0; exact ⟨rfl, rfl⟩)
theorem lH0 (a : Addr) (u : FrameMode) (w : World) (hc : w.cell? a = some (.int .i32 1)) (hz : w.frozen? a = false) :
  CallsD Go.Proofs.Tryz.prog 155 #[.pointer (some a)] u w fun e u' w' => u' = u /\ (e = .returned (.tuple #[]) /\ w' = w.setCell a (.int .i32 0)) := by
 have hd := qa0
 have he := rF0
 have hr := nR0
 have hadd := run_call_add (P := Go.Proofs.Tryz.prog) Go.Proofs.Tryz.func173 (by kernel_rfl) (by kernel_rfl) (by kernel_rfl) .i32 (by kernel_rfl) (y := -1) (s := 0) hc hz (by simp [go_sem]; rfl)
 have hcv := run_convert_to_unsafe (P := Go.Proofs.Tryz.prog) (src := 225) (dst := 125) Go.Proofs.Tryz.underlying225 Go.Proofs.Tryz.underlying125 (by kernel_rfl) hc
 go_enter_d Go.Proofs.Tryz.func155, Go.Proofs.Tryz.ntmps155
 go_wp2
 go_end0
 go_wp2
 go_end0
 exact ⟨rfl, rfl⟩
theorem q40 (a : Addr) (w : World) (hc : w.cell? a = some (.int .i32 0)) (hz : w.frozen? a = false) :
  Calls Go.Proofs.Tryz.prog 154 #[.pointer (some a)] w fun e w' => e = .returned (.tuple #[]) /\ w' = w.setCell a (.int .i32 1) := by
 have hd := qa0
 have he := rF0
 have ha := q_acquire
 have hcas := run_call_cas_hit (P := Go.Proofs.Tryz.prog) Go.Proofs.Tryz.func168 (by kernel_rfl) (by kernel_rfl) (by kernel_rfl) .i32 (by kernel_rfl) (y := 1) hc hz
 have hc' : (w.setCell a (.int .i32 1)).cell? a = some (.int .i32 1) := World.cell?_setCell_same w a _ hc
 have hcv := run_convert_to_unsafe (P := Go.Proofs.Tryz.prog) (src := 225) (dst := 125) Go.Proofs.Tryz.underlying225 Go.Proofs.Tryz.underlying125 (by kernel_rfl) hc'
 go_enter Go.Proofs.Tryz.func154, Go.Proofs.Tryz.ntmps154
 go_wp2
 first | go_end0 | (simp only [Exit.inBlock, Exit.then]; refine bodyPost_ret (results_none rfl _ _ _) rfl ?_) | refine bodyPost_ret (results_none rfl _ _ _) rfl ?_
 go_wp2
 go_end0
 exact ⟨rfl, rfl⟩
end Go.Am
end

section
namespace Go.Am
set_option maxRecDepth 100000
theorem J.called {f : FuncId} {fn : Func} {c : Code} {args : List V} {obs : List Ob} {Q : Res -> Prop} (hf : prog.funcs[f]? = some fn) (hn : (fn.name == "runtime.NumGoroutine") = false) (hb : fn.body = some c) (h : J prog f args obs Q)
  {H : Imm} {μ : Mu} {us : Array Value} {w : World} (h3 : RL H μ args us) (hW : Wd H μ (hpE 0 obs) w) :
  Calls prog f us w fun e w' => ∃ r H' μ', Q r /\ JP H μ obs.length (hpE 0 obs) w r e H' μ' w' := by
 have hn' : ¬ fn.name = "runtime.NumGoroutine" := by simpa using hn
 have hrun : (callFunc f us).run prog w = .ok (.enter f us) w := by simp [callFunc, hf, hn', hb]
 have hc := h H μ us w h3 hW
 unfold dF0 at hc
 rw [hrun] at hc
 exact hc
theorem RL_one {H : Imm} {μ : Mu} {v : V} {x : Value} (h : R H μ v x) : RL H μ [v] #[x] := ⟨rfl, fun j u hj => by
 match j, hj with
 | 0, hj => injection hj with hj; subst hj; exact h
 | j + 1, hj => simp at hj⟩
theorem RL_two {H : Imm} {μ : Mu} {v u : V} {x y : Value} (h : R H μ v x) (k : R H μ u y) : RL H μ [v, u] #[x, y] := ⟨rfl, fun j z hj => by
 match j, hj with
 | 0, hj => injection hj with hj; subst hj; exact h
 | 1, hj => injection hj with hj; subst hj; exact k
 | j + 2, hj => simp at hj⟩
abbrev gU0 : Ob := aU0 1 (.c .nilIface) (.lst old4)
abbrev repBox : List V := repC ++ [.lst [aQ0 [34], aQ0 [92]]]
structure rW0 (H : Imm) (μ : Mu) (b : Nat) (w w2 : World) (p : Nat) : Prop where
 nj : ∃ H' μ' blk blk', Nj H μ (hpE 0 [gU0]) w H' μ' (hpE 0 [gU0, .box repBox]) w2 /\ Wd H' μ' (hpE 0 [gU0, .box repBox]) w2 /\ μ' (.e 0) = some blk /\ blk.b = b /\ μ' (.e 1) = some blk' /\ blk'.b = p
 cells : ∃ x0 x1 x2 x3 x4 ty, w2.heap[b]? = some (.cells #[x0, x1, x2, x3, x4] ty (0, 0)) /\ x0 = .int .u32 0 /\ x1 = .int .i32 1
theorem box5 {H : Imm} {μ : Mu} {w : World} {st : Int} {r l : V} {hp : Hp} (hl : hp.lookup (.e 0) = some (aU0 st r l)) (hW : Wd H μ hp w) :
  ∃ blk x3 x4, μ (.e 0) = some blk /\ H blk.b = none /\ R H μ r x3 /\ R H μ l x4 /\ w.heap[blk.b]? = some (.cells #[.int .u32 0, .int .i32 st, .int .u32 0, x3, x4] blk.cap (0, 0)) := by
 obtain ⟨blk, vals, ty, h1, h2, h3, ⟨h4, h4'⟩, h5⟩ := hW.ob (.e 0) _ hl
 subst h4'
 obtain ⟨y0, a0, r0⟩ := h5 0 _ rfl
 obtain ⟨y1, a1, r1⟩ := h5 1 _ rfl
 obtain ⟨y2, a2, r2⟩ := h5 2 _ rfl
 obtain ⟨y3, a3, r3⟩ := h5 3 _ rfl
 obtain ⟨y4, a4, r4⟩ := h5 4 _ rfl
 cases r0; cases r1; cases r2
 refine ⟨blk, y3, y4, h1, h4, r3, r4, ?_⟩
 rw [h2]
 congr 2
 have hs : vals.size = 5 := h3
 apply Array.ext
 ·simpa using hs
 ·intro i h1 h2
  have h3 : i < 5 := by omega
  rw [<- Option.some_inj, <- Array.getElem?_eq_getElem]
  match i, h3 with
  | 0, _ => simpa using a0
  | 1, _ => simpa using a1
  | 2, _ => simpa using a2
  | 3, _ => simpa using a3
  | 4, _ => simpa using a4
theorem qH0 {H : Imm} {μ : Mu} {w : World} {b : Nat} {blk : Blk} (hW : Wd H μ (hpE 0 [gU0]) w) (hμ : μ (.e 0) = some blk) (hb : blk.b = b) :
  Calls Go.Proofs.Tryz.prog 150 #[.pointer (some ⟨b, 0, none⟩)] w fun e w2 => ∃ p, e = .returned (.iface 209 (.pointer (some ⟨p, 0, none⟩))) /\ rW0 H μ b w w2 p := by
 obtain ⟨c, hc⟩ : ∃ c, Go.Proofs.Tryz.f150.body = some c := ⟨_, rfl⟩
 subst hb
 refine Calls.mono (J.called Go.Proofs.Tryz.func150 (by kernel_rfl) hc (r60 1) (RL_one (.bp (.e 0) 0 blk hμ)) hW) ?_
 rintro e w2 ⟨r, H', μ', rfl, ⟨x, rfl, hx⟩, hN, hW', _, hk⟩
 cases hx with
 | ifc _ _ y hy =>
 cases hy with
 | bp _ _ blk' h' =>
 have hk0 : μ' (.e 0) = some blk := (hk 0 gU0 (by simp) rfl (by simp [aU0])).trans hμ
 obtain ⟨blk0, x3, x4, e0, _, _, _, e1⟩ := box5 (st := 1) rfl hW'
 rw [hk0] at e0; injection e0 with e0; subst e0
 exact ⟨_, rfl, ⟨H', μ', blk, blk', hN, hW', hk0, rfl, h', rfl⟩, _, _, _, _, _, _, e1, rfl, rfl⟩
theorem oB0 {w : World} {b j : Nat} {cs : Array Value} {ty : TypeId} {x : Value} (h : w.heap[b]? = some (.cells cs ty (0, 0))) (hx : cs[j]? = some x) : w.cell? ⟨b, j, none⟩ = some x := by rw [hu0 h, hx]
abbrev jv0 (w2 : World) (b p : Nat) : World := (w2.setCell ⟨b, 3, none⟩ (.iface 209 (.pointer (some ⟨p, 0, none⟩)))).setCell ⟨b, 4, none⟩ (.slice none 0 0)
set_option maxHeartbeats 1600000 in
theorem mH0 {H : Imm} {μ : Mu} {w : World} {b : Nat} {blk : Blk} (hW : Wd H μ (hpE 0 [gU0]) w) (hμ : μ (.e 0) = some blk) (hb : blk.b = b) :
  Calls Go.Proofs.Tryz.prog 141 #[.pointer (some ⟨b, 0, none⟩)] w fun e w' => e = .returned (.tuple #[]) /\ ∃ w2 p, w' = jv0 w2 b p /\ rW0 H μ b w w2 p := by
 go_enter Go.Proofs.Tryz.func141, Go.Proofs.Tryz.ntmps141
 go_wp2_with (go_at_call 150; refine (qH0 hW hμ hb).mono ?_; rintro e w2 ⟨p, rfl, hB⟩; obtain ⟨x0, x1, x2, x3, x4, ty, e1, -, -⟩ := hB.cells; have c3 := oB0 (j := 3) e1 rfl; have c4 := oB0 (j := 4) e1 rfl; have f3 := ll0 (j := 3) e1; have f4 := ll0 (j := 4) e1)
 go_end0
 exact ⟨rfl, _, _, rfl, hB⟩
abbrev mq0 (w2 : World) (b p : Nat) : World := ((jv0 w2 b p).drew.setCell ⟨b, 0, none⟩ (.int .u32 1)).setCell ⟨b, 1, none⟩ (.int .i32 0)
theorem pQ0 {w2 : World} {b p : Nat} {x0 x1 x2 x3 x4 : Value} {ty : TypeId} (h : w2.heap[b]? = some (.cells #[x0, x1, x2, x3, x4] ty (0, 0))) :
  (jv0 w2 b p).heap[b]? = some (.cells #[x0, x1, x2, .iface 209 (.pointer (some ⟨p, 0, none⟩)), .slice none 0 0] ty (0, 0)) := by
 have h1 := da0 (j := 3) (x := .iface 209 (.pointer (some ⟨p, 0, none⟩))) h
 have h2 := da0 (j := 4) (x := .slice none 0 0) h1
 simpa using h2
theorem done_heap {w2 : World} {b p : Nat} {x0 x1 x2 x3 x4 : Value} {ty : TypeId} (h : w2.heap[b]? = some (.cells #[x0, x1, x2, x3, x4] ty (0, 0))) :
  (mq0 w2 b p).heap[b]? = some (.cells #[.int .u32 1, .int .i32 0, x2, .iface 209 (.pointer (some ⟨p, 0, none⟩)), .slice none 0 0] ty (0, 0)) := by
 have h0 : (jv0 w2 b p).drew.heap[b]? = _ := pQ0 (p := p) h
 have h1 := da0 (j := 0) (x := .int .u32 1) h0
 have h2 := da0 (j := 1) (x := .int .i32 0) h1
 simpa using h2
theorem done_chg (w2 : World) (b p : Nat) : Chg b w2 (mq0 w2 b p) :=
 (((((Chg.set b 3 _ w2).trans (Chg.set b 4 _ _)).trans (Chg.drew b _)).trans (Chg.set b 0 _ _))).trans (Chg.set b 1 _ _)
theorem Wd.locked {H : Imm} {μ : Mu} {w : World} {blk : Blk} (hW : Wd H μ (hpE 0 [aU0 0 (.c .nilIface) (.lst old4)]) w) (hμ : μ (.e 0) = some blk) : Wd H μ (hpE 0 [gU0]) (w.setCell ⟨blk.b, 1, none⟩ (.int .i32 1)) := by
 obtain ⟨blk0, x3, x4, e0, hI, r3, r4, hB⟩ := box5 (st := 0) rfl hW
 rw [hμ] at e0; injection e0 with e0; subst e0
 exact Wd.poke (j := 1) (v := .c (.int .i32 1)) hW hμ hB (by simp) (.c _)
set_option maxHeartbeats 1600000 in
theorem sF0 {H : Imm} {μ : Mu} {w : World} {b : Nat} {blk : Blk} (hW : Wd H μ (hpE 0 [aU0 0 (.c .nilIface) (.lst old4)]) w) (hμ : μ (.e 0) = some blk) (hb : blk.b = b) :
  Calls Go.Proofs.Tryz.prog 149 #[.pointer (some ⟨b, 0, none⟩), .func (.func 141) #[.pointer (some ⟨b, 0, none⟩)] #[]] w fun e w' =>
   e = .returned (.tuple #[]) /\ ∃ w2 p, w' = mq0 w2 b p /\ rW0 H μ b (w.setCell ⟨b, 1, none⟩ (.int .i32 1)) w2 p := by
 obtain ⟨blk0, x3, x4, e0, hI, r3, r4, hB⟩ := box5 (st := 0) rfl hW
 rw [hμ] at e0; injection e0 with e0; subst e0
 have hW1 := Wd.locked hW hμ
 subst hb
 have c0 := oB0 (j := 0) hB rfl
 have c1 := oB0 (j := 1) hB rfl
 have f1 := ll0 (j := 1) hB
 have hB1 : (w.setCell ⟨blk.b, 1, none⟩ (.int .i32 1)).heap[blk.b]? = some (.cells #[.int .u32 0, .int .i32 1, .int .u32 0, x3, x4] blk.cap (0, 0)) := by
  have := da0 (j := 1) (x := .int .i32 1) hB
  simpa using this
 have hl := run_call_load (P := Go.Proofs.Tryz.prog) Go.Proofs.Tryz.func153 (by kernel_rfl) (by kernel_rfl) (by kernel_rfl) .u32 (by kernel_rfl) (w := w.setCell ⟨blk.b, 1, none⟩ (.int .i32 1)) (a := ⟨blk.b, 0, none⟩) (x := 0) (oB0 (j := 0) hB1 rfl)
 have hnot : ∀ (x : Bool) (w : World), (Op.unary .not (.bool x)).run Go.Proofs.Tryz.prog w = .ok (.bool (!x)) w := fun _ _ => rfl
 go_enter_defers Go.Proofs.Tryz.func149, Go.Proofs.Tryz.ntmps149
 go_wp2_with (go_at_call 154; refine (q40 ⟨blk.b, 1, none⟩ _ c1 f1).mono ?_; rintro e w' ⟨rfl, rfl⟩)
 go_wp2_with (first | (go_at_call 141; refine (mH0 hW1 hμ rfl).mono ?_; rintro e w' ⟨rfl, w2, p, rfl, hB2⟩) | (go_at_call 148; go_in))
 obtain ⟨x0, x1, x2, y3, y4, ty, e1, rfl, rfl⟩ := hB2.cells
 have e3 := pQ0 (p := p) e1
 refine leaves_cons (f := 156) (args := #[.pointer (some ⟨blk.b, 0, none⟩), .bool true]) (by simp) (by simp [go_sem]) ?_
 refine (mj0 ⟨blk.b, 0, none⟩ (.int .u32 0) .returning _ (oB0 (j := 0) e3 rfl) (ll0 e3)).mono ?_
 rintro e u' w'' ⟨rfl, rfl, rfl⟩
 have e4 : ((jv0 w2 blk.b p).drew.setCell ⟨blk.b, 0, none⟩ (.int .u32 1)).heap[blk.b]? = _ := da0 (w := (jv0 w2 blk.b p).drew) (j := 0) (x := .int .u32 1) e3
 refine leaves_cons (f := 155) (args := #[.pointer (some ⟨blk.b, 1, none⟩)]) (by simp [settle]) (by simp [go_sem]) ?_
 refine (lH0 ⟨blk.b, 1, none⟩ _ _ (oB0 (j := 1) e4 rfl) (ll0 e4)).mono ?_
 rintro e u' w'' ⟨rfl, rfl, rfl⟩
 simp [Leaves, settle, results, Go.Proofs.Tryz.results149]
 exact ⟨_, _, rfl, hB2⟩
set_option maxHeartbeats 1600000 in
theorem do_calls {H : Imm} {μ : Mu} {w : World} {b : Nat} {blk : Blk} (hW : Wd H μ (hpE 0 [aU0 0 (.c .nilIface) (.lst old4)]) w) (hμ : μ (.e 0) = some blk) (hb : blk.b = b) :
  Calls Go.Proofs.Tryz.prog 140 #[.pointer (some ⟨b, 0, none⟩), .func (.func 141) #[.pointer (some ⟨b, 0, none⟩)] #[]] w fun e w' =>
   e = .returned (.tuple #[]) /\ ∃ w2 p, w' = mq0 w2 b p /\ rW0 H μ b (w.setCell ⟨b, 1, none⟩ (.int .i32 1)) w2 p := by
 obtain ⟨blk0, x3, x4, e0, hI, r3, r4, hB⟩ := box5 (st := 0) rfl hW
 rw [hμ] at e0; injection e0 with e0; subst e0
 subst hb
 have hl := run_call_load (P := Go.Proofs.Tryz.prog) Go.Proofs.Tryz.func153 (by kernel_rfl) (by kernel_rfl) (by kernel_rfl) .u32 (by kernel_rfl) (w := w) (a := ⟨blk.b, 0, none⟩) (x := 0) (oB0 (j := 0) hB rfl)
 have hnot : ∀ (x : Bool) (w : World), (Op.unary .not (.bool x)).run Go.Proofs.Tryz.prog w = .ok (.bool (!x)) w := fun _ _ => rfl
 go_enter Go.Proofs.Tryz.func140, Go.Proofs.Tryz.ntmps140
 go_wp2_with (first | (go_at_call 149; refine (sF0 hW hμ rfl).mono ?_; rintro e w' ⟨rfl, w2, p, rfl, hB2⟩) | (go_at_call 148; go_in))
 go_end0
 exact ⟨rfl, _, _, rfl, hB2⟩
theorem rW0.rest {H : Imm} {μ : Mu} {w w1 w2 w3 : World} {b p : Nat} {o : Ob} (h : rW0 H μ b w1 w2 p) (hm : μ (.e 0) ≠ none) (h1 : Chg b w w1) (h3 : Chg b w2 w3) (hb : ∀ b', Owns (hpE 0 [gU0]) μ b' -> b' = b) (ho : Owns (hpE 0 [o]) μ b) :
  ∃ H' μ' blk', Nj H μ (hpE 0 [o]) w H' μ' (hpE 0 [.gone]) w3 /\ Wd H' μ' (hpE 0 qf0) w3 /\ μ' (.e 0) = some blk' /\ blk'.b = p /\ (p < w.heap.size -> False) := by
 obtain ⟨⟨H', μ', blk, blk', hN, hW, m0, e0, m1, e1⟩, _⟩ := h
 subst e0; subst e1
 obtain ⟨blk0, x3, x4, q0, hI, _, _, _⟩ := box5 (st := 1) rfl hW
 rw [m0] at q0; injection q0 with q0; subst q0
 obtain ⟨blk1, k1, k2, k3⟩ := Wd.second hW rfl m0 hI h3 fun i v hv => (by
  have := kS0 (jA0 [aQ0 [34], aQ0 [92]]) i
  rw [<- Bool.not_eq_true]
  intro hh
  obtain ⟨j, hj⟩ := List.getElem?_of_mem hv
  have := V.gS0 hj hh
  rw [kS0 (jA0 _) i] at this
  cases this)
 rw [m1] at k1; injection k1 with k1; subst k1
 have hfr : ¬ blk'.b < w.heap.size := fun hlt => by
  have := hN.own blk'.b ⟨.e 1, .box repBox, blk', rfl, rfl, m1, rfl⟩ (by rw [h1.size]; exact hlt)
  exact k2 (hb _ this)
 refine ⟨H', _, blk', ⟨hN.imm, h3.os.trans (hN.os.trans h1.os), h3.tape.trans (hN.tape.trans h1.tape), h3.output.trans (hN.output.trans h1.output), ?_, fun b' hlt hno => ?_, fun b' hh => ?_, fun b' cs g1 g2 => ?_⟩, k3, by simp, rfl, hfr⟩
 ·rw [h3.size, <- h1.size]; exact hN.size
 ·have hne : b' ≠ blk.b := fun e => hno (by rw [e]; exact ho)
  rw [h3.keep b' hne, hN.keep b' (by rw [h1.size]; exact hlt) (fun hh => hne (hb _ hh)), h1.keep b' hne]
 ·obtain ⟨i, ob, bk, g1, g2, _⟩ := hh
  simp only [hpE, List.lookup_cons] at g1
  split at g1
  ·injection g1 with g1; subst g1; cases g2
  ·simp at g1
 ·rcases hN.fresh b' cs g1 g2 with g3 | g3
  ·exact .inl (by rw [<- h1.size]; exact g3)
  ·exact .inr (by rw [hb _ g3]; exact ho)
theorem owns_one {o : Ob} {μ : Mu} {b : Nat} {blk : Blk} (ho : o.own = true) (hμ : μ (.e 0) = some blk) (hb : blk.b = b) : Owns (hpE 0 [o]) μ b := ⟨.e 0, o, blk, rfl, ho, hμ, hb⟩
theorem nd0 {o : Ob} {μ : Mu} {b : Nat} {blk : Blk} (hμ : μ (.e 0) = some blk) (h : Owns (hpE 0 [o]) μ b) : b = blk.b := by
 obtain ⟨i, ob, bk, g1, _, g2, g3⟩ := h
 simp only [hpE, List.lookup_cons] at g1
 split at g1
 ·rename_i hi
  have : i = .e 0 := by simpa using hi
  subst this
  rw [hμ] at g2; injection g2 with g2; subst g2
  exact g3.symm
 ·simp at g1
theorem owns_gone {μ : Mu} {b : Nat} : ¬ Owns (hpE 0 [.gone]) μ b := by
 rintro ⟨i, ob, bk, g1, g2, _⟩
 simp only [hpE, List.lookup_cons] at g1
 split at g1
 ·injection g1 with g1; subst g1; cases g2
 ·simp at g1
theorem Nj.then {H H' H5 : Imm} {μ μ' μ5 : Mu} {w w3 w5 : World} {o r : Ob} {blk' : Blk} (h : Nj H μ (hpE 0 [o]) w H' μ' (hpE 0 [.gone]) w3) (hm : μ' (.e 0) = some blk') (hf : ¬ blk'.b < w.heap.size)
  (k : Nj H' μ' (hpE 0 [r]) w3 H5 μ5 (hpE 0 [r]) w5) : Nj H μ (hpE 0 [o]) w H5 μ5 (hpE 0 [.gone]) w5 := by
 refine ⟨Imm.le_trans h.imm k.imm, k.os.trans h.os, k.tape.trans h.tape, k.output.trans h.output, Nat.le_trans h.size k.size, fun b' hlt hno => ?_, fun b' hh => absurd hh owns_gone, fun b' cs g1 g2 => ?_⟩
 ·rw [k.keep b' (Nat.lt_of_lt_of_le hlt h.size) (fun hh => hf (by rw [<- nd0 hm hh]; exact hlt)), h.keep b' hlt hno]
 ·cases h1 : H' b' with
  | some c => exact h.fresh b' c h1 g2
  | none =>
   rcases k.fresh b' cs g1 h1 with g3 | g3
   ·exact .inl (Nat.le_trans h.size g3)
   ·rw [nd0 hm g3]; exact .inl (Nat.le_of_not_lt hf)
theorem Wd.gone {H : Imm} {μ : Mu} {hp : Hp} {w : World} (h : Wd H μ hp w) : Wd H μ (hpE 0 [.gone]) w := by
 refine ⟨fun i o hl => ?_, fun i j oi oj bi bj hi ho => ?_, h.imm, h.glo⟩
 ·simp only [hpE, List.lookup_cons] at hl
  split at hl
  ·injection hl with hl; subst hl; trivial
  ·simp at hl
 ·simp only [hpE, List.lookup_cons] at hi
  split at hi
  ·injection hi with hi; subst hi; cases ho
  ·simp at hi
theorem q_method (a : Addr) (W : World) : Sem.run Go.Proofs.Tryz.prog (method 365 209 (.pointer (some a)) "Replace") W = .ok (208, .pointer (some a)) W := by kernel_rfl
set_option maxHeartbeats 1600000 in
theorem os0 (s : Bs) (hs : s.length < 2 ^ 39) {H : Imm} {μ : Mu} {w : World} {blk : Blk} (hW : Wd H μ (hpE 0 [aU0 0 (.c .nilIface) (.lst old4)]) w) (hμ : μ (.e 0) = some blk) :
  Calls Go.Proofs.Tryz.prog 127 #[.pointer (some ⟨blk.b, 0, none⟩), .string (bS s)] w fun e w' =>
   e = .returned (.string (bS (repB s))) /\ ∃ H' μ', Nj H μ (hpE 0 [aU0 0 (.c .nilIface) (.lst old4)]) w H' μ' (hpE 0 [.gone]) w' /\ Wd H' μ' (hpE 0 [.gone]) w' := by
 have hmf : ∀ (fn : Fn) (first cap : Array Value) (w : World), (Instr.makeFunc fn first cap).run Go.Proofs.Tryz.prog w = .ok (.func fn first cap) w := fun _ _ _ _ => rfl
 obtain ⟨cc, hcc⟩ : ∃ c, Go.Proofs.Tryz.f208.body = some c := ⟨_, rfl⟩
 have hme := q_method
 obtain ⟨blk0, x3, x4, m0, hI, r3, r4, hB⟩ := box5 (st := 0) rfl hW
 rw [hμ] at m0; injection m0 with m0; subst m0
 go_enter Go.Proofs.Tryz.func127, Go.Proofs.Tryz.ntmps127
 go_wp2_with (first
  | (go_at_call 140; refine (do_calls hW hμ rfl).mono ?_; rintro e w' ⟨rfl, w2, p, rfl, hB2⟩; obtain ⟨x0, x1, x2, y3, y4, ty, e1, -, -⟩ := hB2.cells; have c3 := oB0 (j := 3) (done_heap (p := p) e1) rfl
     obtain ⟨H', μ', blk', hN, hW', m1, rfl, hf⟩ := hB2.rest (w := w) (o := aU0 0 (.c .nilIface) (.lst old4)) (by rw [hμ]; simp) (Chg.set blk.b 1 _ w) (done_chg w2 blk.b p) (fun b' hb => nd0 hμ hb) (owns_one rfl hμ rfl))
  | (go_at_call 208; refine (J.called Go.Proofs.Tryz.func208 (by kernel_rfl) hcc (pw0 s hs) (RL_two (.bp (.e 0) 0 blk' m1) (.c _)) hW').mono ?_; rintro e w5 ⟨r, H5, μ5, rfl, ⟨x, rfl, hx⟩, hN5, hW5, -, -⟩; cases hx))
 go_ret
 exact ⟨rfl, H5, μ5, hN.then m1 hf hN5, hW5.gone⟩
end Go.Am
end

section
namespace Go.Am
set_option maxRecDepth 100000
theorem pt0 (s : Bs) (hs : s.length < 2 ^ 39) : J prog gC0 [.bp (.e 0) 0, vS (bS s)] [aU0 0 (.c .nilIface) (.lst old4)] (· = .ret (vS (bS (repB s))) [.gone]) := by
 intro H μ us w hv hW
 have r0 := hv.2 0 _ rfl
 have r1 := hv.2 1 _ rfl
 rw [mw0 hv]
 generalize us.getD 0 undef = p at r0
 generalize us.getD 1 undef = q at r1
 cases r1
 cases r0 with
 | bp _ _ blk hμ =>
 obtain ⟨c, hc⟩ : ∃ c, Go.Proofs.Tryz.f127.body = some c := ⟨_, rfl⟩
 have hn : (Go.Proofs.Tryz.f127.name == "runtime.NumGoroutine") = false := by kernel_rfl
 have hn' : ¬ Go.Proofs.Tryz.f127.name = "runtime.NumGoroutine" := by simpa using hn
 have hrun : (callFunc 127 #[.pointer (some ⟨blk.b, 0, none⟩), .string (bS s)]).run prog w = .ok (.enter 127 #[.pointer (some ⟨blk.b, 0, none⟩), .string (bS s)]) w := by simp [callFunc, Go.Proofs.Tryz.func127, hn', hc]
 unfold dF0
 rw [hrun]
 refine Calls.mono (os0 s hs hW hμ) ?_
 rintro e w' ⟨rfl, H', μ', hN, hW'⟩
 refine ⟨_, H', μ', rfl, ⟨_, rfl, .c _⟩, hN, hW', by simp, fun j o hj ho hg => ?_⟩
 match j, ho with
 | 0, ho => injection ho with ho; exact absurd ho.symm hg
attribute [local irreducible] vc vcIs vcI vcOp vcD vcDp vcDR vcT vcAR bV0 aY0 panD neG ne pv J bH0 bM0 bY0 bd0 evK evsK nthK objK boxK rowK bz0 intK strK aggK fnK ifcK ay0 az0 ldK ldaK iaK srcK stK appK appD b00 pvK bC0 aW0 bL0 bs0 slAV bG0
theorem mb0 : J prog eV0 [.lst old4] [] (· = .ret (.bp (.e 0) 0) [aU0 0 (.c .nilIface) (.lst old4)]) := by
 refine at0 iA0 (by simp) ?_
 refine rS5 @et0.eq_1 @aU0.eq_1 @hpE.eq_1 @hpE.eq_2 @br0 ?_
 refine endR [(2, .bp (.l 11 0) 0)] [(.l 11 0, aU0 0 (.c .nilIface) (.lst old4))] (Wk.frz (.l 9 0) rfl (by simp [V.fz]) (by simp [Ob.fz, V.fz, aU0])) [.l 11 0] (by simp) ?_
 exact rT1 @aU0.eq_1
theorem sz0 (s : Bs) : kg0 s = [34] ++ repB s ++ [34] := by
 unfold kg0 repB
 congr 2
 congr 1
 funext c
 unfold j00
 split
 ·rfl
 ·split <;> rfl
theorem nM0 (s : Bs) (hs : s.length < 2 ^ 38) : Ret prog mO0 [vS (bS s)] (vS (bS (kg0 s))) := by
 refine cm0 pF0 (by simp) ?_
 refine rS1 @lR0.eq_1 ?_
 refine aa0 [] ?_
 simp
 have hO := mb0
 try simp [ae0, ad0, aU0] at hO
 refine ab0 4 hO ?_
 refine rS0 ?_
 refine aa0 [.l 4 0] ?_
 simp
 have hO := pt0 s (by omega)
 try simp [ae0, ad0, aU0] at hO
 refine ab0 6 hO ?_
 have hl := o60 s
 have h34 : s.count 34 <= s.length := List.count_le_length
 have h92 : s.count 92 <= s.length := List.count_le_length
 rw [pz0] at hl
 have hz : (bS (repB s)).size = (repB s).length := rfl
 have q1 : (⟨⟨[34]⟩⟩ : ByteArray).size = 1 := rfl
 have e : (⟨⟨[34]⟩⟩ : ByteArray) ++ bS (repB s) ++ ⟨⟨[34]⟩⟩ = bS (kg0 s) := by rw [sz0, <- fT0, <- fT0]
 exact rT3 hz q1 e
set_option maxHeartbeats 3200000 in
theorem expr_text (num : Int) (op : Int) (text : ByteArray) (slot : Int) (type : ByteArray) (at_ : Int) (h : hP0 (sB text) = true) : db0 (.mk 3 op num text slot type [] at_) (kg0 (sB text)) := by
 intro bs hl
 have hlen : text.size <= 256 := by
  have hp := h
  unfold hP0 at hp
  simp only [Bool.and_eq_true, decide_eq_true_eq] at hp
  exact hp.1
 have hP := nL0 text (by omega)
 rw [h] at hP
 have hQ := nM0 (sB text) (by have : (sB text).length = text.size := rfl; omega)
 rw [pv0] at hQ
 refine at0 aF0 (by simp [ae0]) ?_
 rw [Exq.V, Exq.ac0]
 simp +contextual (maxSteps := 2000000) (disch := omega) [-Int.not_lt, -Int.not_le, -Nat.not_lt, -Nat.not_le, sx, aC0, ae0, hpE, Exq.kind, Exq.op, Exq.num, Exq.text, Exq.slot, Exq.type, Exq.args, Exq.at_]
 refine aa0 [] ?_
 simp
 have hO := an0
 try simp [ae0, ad0, aU0] at hO
 refine ab0 23 hO ?_
 refine rS0 ?_
 refine ak0 ?_; simp; refine ah0 (hP) (by simp) ?_
 refine rS0 ?_
 refine aa0 [] ?_
 simp
 have hO := an0
 try simp [ae0, ad0, aU0] at hO
 refine ab0 62 hO ?_
 refine rS0 ?_
 refine ak0 ?_; simp; refine ah0 (hQ) (by simp) ?_
 refine rS0 ?_
 refine aa0 [.e 0, .e 1] ?_
 simp
 have hO := as0 bs [kg0 (sB text)] (by simp only [List.flatten_cons, List.flatten_nil, List.append_nil]; omega) (by simp)
 try simp [ae0, ad0, aU0] at hO
 refine ab0 68 hO ?_
 refine rS0 ?_
 refine bX0 [.l 68 0] ?_
 exact rT1 @ad0.eq_1
end Go.Am
end

section
namespace Go.Am
set_option maxRecDepth 100000
theorem shE_op {x : Exq} {t : Bs} (h : shE x = some t) (hk : x.kind = 15) : opOk x.op = true := by
 obtain ⟨k, op, num, text, slot, type, args, at_⟩ := x
 have hk : k = 15 := hk
 subst hk
 rw [shE.eq_def] at h
 dsimp only at h
 simp only [show ¬ (15 : Int) = 1 by decide, show ¬ (15 : Int) = 2 by decide, show ¬ (15 : Int) = 3 by decide, show ¬ (15 : Int) = 6 by decide, show ¬ (15 : Int) = 7 by decide, show ¬ (15 : Int) = 12 by decide, show ¬ ((15 : Int) = 13 \/ (15 : Int) = 14) by decide, if_false, if_true] at h
 split at h
 all_goals first
  | (cases h; done)
  | skip
 all_goals
  split at h
  ·assumption
  ·cases h
theorem putsE : ∀ (m : Nat) (x : Exq), SizeOf.sizeOf x < m -> plE x = true -> ∀ {t : Bs}, shE x = some t -> db0 x t := by
 intro m
 induction m with
 | zero => intro x h; omega
 | succ m ih =>
  intro x hm hp t h
  obtain ⟨k, op, num, text, slot, type, args, at_⟩ := x
  rw [plE, Bool.and_eq_true, decide_eq_true_eq] at hp
  obtain ⟨⟨p2, p3⟩, p4⟩ := hp
  have hsz : ∀ y ∈ args, SizeOf.sizeOf y < m := fun y hy => by
   have := List.sizeOf_lt_of_mem hy
   simp only [Exq.mk.sizeOf_spec] at hm; omega
  have hpl := q00 p4
  rw [shE.eq_def] at h
  dsimp only at h
  by_cases k1 : k = 1
  ·subst k1
   rw [if_pos rfl] at h
   split at h
   ·rename_i hc; obtain ⟨rfl, hc2⟩ := hc
    injection h with h; subst h
    exact expr_int num op text slot type at_ hc2 p2
   ·cases h
  rw [if_neg k1] at h
  by_cases k2 : k = 2
  ·subst k2
   rw [if_pos rfl] at h
   split at h
   ·rename_i hc; obtain ⟨rfl, hc2⟩ := hc
    injection h with h; subst h
    rcases hc2 with rfl | rfl
    ·exact sd0 op text slot type at_
    ·exact se0 op text slot type at_
   ·cases h
  rw [if_neg k2] at h
  by_cases k3 : k = 3
  ·subst k3
   rw [if_pos rfl] at h
   split at h
   ·rename_i hc; obtain ⟨rfl, hc2⟩ := hc
    injection h with h; subst h
    exact expr_text num op text slot type at_ hc2
   ·cases h
  rw [if_neg k3] at h
  by_cases k6 : k = 6
  ·subst k6
   rw [if_pos rfl] at h
   split at h
   ·rename_i hc; obtain ⟨rfl, hc2⟩ := hc
    injection h with h; subst h
    exact expr_name num op text slot type at_ hc2
   ·cases h
  rw [if_neg k6] at h
  by_cases k7 : k = 7
  ·subst k7
   rw [if_pos rfl] at h
   split at h
   ·rename_i hc
    cases hL : shL args with
    | none => rw [hL] at h; cases h
    | some ts =>
     rw [hL] at h
     simp only [Option.map_some, Option.some.injEq] at h
     subst h
     obtain ⟨g1, g2⟩ := lL0 hL
     exact expr_call num op text slot type at_ args ts hc g1 p3 fun i hi => ih _ (hsz _ (List.getElem_mem hi)) (hpl _ (List.getElem_mem hi)) (g2 i hi (by omega))
   ·cases h
  rw [if_neg k7] at h
  have parts : ∀ {ts : List Bs}, shL args = some ts -> ts.length = args.length /\ ∀ i (hi : i < args.length) (hi2 : i < ts.length), db0 args[i] ts[i] /\ shE args[i] = some ts[i] := fun hL => by
   obtain ⟨g1, g2⟩ := lL0 hL
   exact ⟨g1, fun i hi hi2 => ⟨ih _ (hsz _ (List.getElem_mem hi)) (hpl _ (List.getElem_mem hi)) (g2 i hi hi2), g2 i hi hi2⟩⟩
  by_cases k12 : k = 12
  ·subst k12
   rw [if_pos rfl] at h
   split at h
   all_goals first
    | (cases h; done)
    | skip
   rename_i x y a b hL
   injection h with h; subst h
   obtain ⟨_, g⟩ := parts hL
   exact expr_at num op text slot type at_ x y a b (g 0 (by simp) (by simp)).1 (g 1 (by simp) (by simp)).1
  rw [if_neg k12] at h
  by_cases k13 : k = 13 \/ k = 14
  ·rw [if_pos k13] at h
   split at h
   all_goals first
    | (cases h; done)
    | skip
   rename_i x a hL
   injection h with h; subst h
   obtain ⟨_, g⟩ := parts hL
   rcases k13 with rfl | rfl
   ·exact qK0 num op text slot type at_ x a (g 0 (by simp) (by simp)).1
   ·exact qL0 num op text slot type at_ x a (g 0 (by simp) (by simp)).1
  rw [if_neg k13] at h
  by_cases k15 : k = 15
  ·subst k15
   rw [if_pos rfl] at h
   split at h
   all_goals first
    | (cases h; done)
    | skip
   rename_i x y a b hL
   split at h
   ·rename_i hop
    injection h with h; subst h
    obtain ⟨_, g⟩ := parts hL
    exact expr_bin num op text slot type at_ x y a b hop (g 0 (by simp) (by simp)).1 (g 1 (by simp) (by simp)).1 (shE_op (g 0 (by simp) (by simp)).2) (shE_op (g 1 (by simp) (by simp)).2)
   ·cases h
  ·rw [if_neg k15] at h; cases h
end Go.Am
end

section
namespace Go.Am
set_option maxRecDepth 100000
attribute [local irreducible] vc vcIs vcI vcOp vcD vcDp vcDR vcT vcAR bV0 aY0 panD neG ne pv J bH0 bM0 bY0 bd0 evK evsK nthK objK boxK rowK bz0 intK strK aggK fnK ifcK ay0 az0 ldK ldaK iaK srcK stK appK appD b00 pvK bC0 aW0 bL0 bs0 slAV bG0
def mA0 (n : Nat) (x : Stm) (t : Bs) : Prop := ∀ bs : Bs, bs.length + t.length < 2 ^ 40 -> J prog dJ0 [.bp (.e 0) 0, x.V, vS (bS (tabs n))] (ae0 69 bs) (· = .ret (.tup []) (ad0 69 (bs ++ t)))
def nA0 (n : Nat) (l : List Stm) (t : Bs) : Prop := ∀ bs : Bs, bs.length + t.length < 2 ^ 40 -> J prog fA0 [.bp (.e 0) 0, .lst (l.map Stm.cells), vS (bS (tabs n))] (ae0 69 bs) (· = .ret (.tup []) (ad0 69 (bs ++ t)))
set_option maxHeartbeats 3200000 in
theorem st_let (name : ByteArray) (slot : Int) (state : Bool) (num : Int) (body els : List Stm) (at_ : Int) (n : Nat) (x : Exq) (a : Bs) (h : c70 (sB name) = true) (ha : db0 x a) : mA0 n (.mk 1 name slot state num [x] body els at_) (fg0 ++ [32] ++ sB name ++ [32, 61, 32] ++ a ++ [59]) := by
 intro bs hl
 simp only [List.length_append, List.length_cons, List.length_nil, fg0, em0, fe0, kwIf, cp0, ff0, kwTo, fh0] at hl
 have hN := ha0 h
 rw [pv0] at hN
 refine at0 aD0 (by simp [ae0]) ?_
 rw [Stm.V, Stm.ac0]
 simp +contextual (maxSteps := 2000000) (disch := omega) [-Int.not_lt, -Int.not_le, -Nat.not_lt, -Nat.not_le, sx, aA0, ae0, hpE, Stm.kind, Stm.name, Stm.slot, Stm.state, Stm.num, Stm.e, Stm.body, Stm.els, Stm.at_]
 refine aa0 [] ?_
 simp
 have hO := an0
 try simp [ae0, ad0] at hO
 refine ab0 22 hO ?_
 refine rS0 ?_
 refine aa0 [] ?_
 simp
 have hO := hN
 try simp [ae0, ad0] at hO
 refine ab0 31 hO ?_
 refine rS0 ?_
 refine aa0 [.e 0, .e 1] ?_
 simp
 have hO := as0 (bs) [[108, 101, 116, 32], sB name, [32, 61, 32]] (by simp only [List.flatten_cons, List.flatten_nil, List.append_nil, List.length_append, List.length_cons, List.length_nil]; omega) (by simp)
 try simp [ae0, ad0] at hO
 refine ab0 33 hO ?_
 refine rS0 ?_
 refine aa0 [.e 0, .l 33 0] ?_
 simp
 have hO := ha (bs ++ [[108, 101, 116, 32], sB name, [32, 61, 32]].flatten) (by simp only [List.flatten_cons, List.flatten_nil, List.append_nil, List.length_append, List.length_cons, List.length_nil]; omega)
 try simp [ae0, ad0] at hO
 refine ab0 91 hO ?_
 refine rS0 ?_
 refine aa0 [.e 0, .l 91 0] ?_
 simp
 have hO := as0 (bs ++ [[108, 101, 116, 32], sB name, [32, 61, 32]].flatten ++ a) [[59]] (by simp only [List.flatten_cons, List.flatten_nil, List.append_nil, List.length_append, List.length_cons, List.length_nil]; omega) (by simp)
 try simp [ae0, ad0] at hO
 refine ab0 96 hO ?_
 refine rS0 ?_
 refine bX0 [.l 96 0] ?_
 exact rT9 @ad0.eq_1 @fg0.eq_1 @em0.eq_1 @fe0.eq_1 @kwIf.eq_1 @cp0.eq_1 @ff0.eq_1 @kwTo.eq_1 @fh0.eq_1
set_option maxHeartbeats 3200000 in
theorem st_set1 (name : ByteArray) (slot : Int) (state : Bool) (num : Int) (body els : List Stm) (at_ : Int) (n : Nat) (x : Exq) (a : Bs) (h : c70 (sB name) = true) (ha : db0 x a) : mA0 n (.mk 2 name slot state num [x] body els at_) (em0 ++ [32] ++ sB name ++ [32, 61, 32] ++ a ++ [59]) := by
 intro bs hl
 simp only [List.length_append, List.length_cons, List.length_nil, fg0, em0, fe0, kwIf, cp0, ff0, kwTo, fh0] at hl
 have hN := ha0 h
 rw [pv0] at hN
 refine at0 aD0 (by simp [ae0]) ?_
 rw [Stm.V, Stm.ac0]
 simp +contextual (maxSteps := 2000000) (disch := omega) [-Int.not_lt, -Int.not_le, -Nat.not_lt, -Nat.not_le, sx, aA0, ae0, hpE, Stm.kind, Stm.name, Stm.slot, Stm.state, Stm.num, Stm.e, Stm.body, Stm.els, Stm.at_]
 refine aa0 [] ?_
 simp
 have hO := an0
 try simp [ae0, ad0] at hO
 refine ab0 22 hO ?_
 refine rS0 ?_
 refine aa0 [] ?_
 simp
 have hO := hN
 try simp [ae0, ad0] at hO
 refine ab0 39 hO ?_
 refine rS0 ?_
 refine aa0 [.e 0, .e 1] ?_
 simp
 have hO := as0 (bs) [[115, 101, 116, 32], sB name] (by simp only [List.flatten_cons, List.flatten_nil, List.append_nil, List.length_append, List.length_cons, List.length_nil]; omega) (by simp)
 try simp [ae0, ad0] at hO
 refine ab0 41 hO ?_
 refine rS0 ?_
 refine aa0 [.e 0, .l 41 0] ?_
 simp
 have hO := as0 (bs ++ [[115, 101, 116, 32], sB name].flatten) [[32, 61, 32]] (by simp only [List.flatten_cons, List.flatten_nil, List.append_nil, List.length_append, List.length_cons, List.length_nil]; omega) (by simp)
 try simp [ae0, ad0] at hO
 refine ab0 58 hO ?_
 refine rS0 ?_
 refine aa0 [.e 0, .l 58 0] ?_
 simp
 have hO := ha (bs ++ [[115, 101, 116, 32], sB name].flatten ++ [[32, 61, 32]].flatten) (by simp only [List.flatten_cons, List.flatten_nil, List.append_nil, List.length_append, List.length_cons, List.length_nil]; omega)
 try simp [ae0, ad0] at hO
 refine ab0 91 hO ?_
 refine rS0 ?_
 refine aa0 [.e 0, .l 91 0] ?_
 simp
 have hO := as0 (bs ++ [[115, 101, 116, 32], sB name].flatten ++ [[32, 61, 32]].flatten ++ a) [[59]] (by simp only [List.flatten_cons, List.flatten_nil, List.append_nil, List.length_append, List.length_cons, List.length_nil]; omega) (by simp)
 try simp [ae0, ad0] at hO
 refine ab0 96 hO ?_
 refine rS0 ?_
 refine bX0 [.l 96 0] ?_
 exact rT9 @ad0.eq_1 @fg0.eq_1 @em0.eq_1 @fe0.eq_1 @kwIf.eq_1 @cp0.eq_1 @ff0.eq_1 @kwTo.eq_1 @fh0.eq_1
set_option maxHeartbeats 3200000 in
theorem st_set2 (name : ByteArray) (slot : Int) (state : Bool) (num : Int) (body els : List Stm) (at_ : Int) (n : Nat) (x y : Exq) (a c : Bs) (h : c70 (sB name) = true) (ha : db0 x a) (hc : db0 y c) : mA0 n (.mk 2 name slot state num [x, y] body els at_) (em0 ++ [32] ++ sB name ++ [91] ++ a ++ [93] ++ [32, 61, 32] ++ c ++ [59]) := by
 intro bs hl
 simp only [List.length_append, List.length_cons, List.length_nil, fg0, em0, fe0, kwIf, cp0, ff0, kwTo, fh0] at hl
 have hN := ha0 h
 rw [pv0] at hN
 refine at0 aD0 (by simp [ae0]) ?_
 rw [Stm.V, Stm.ac0]
 simp +contextual (maxSteps := 2000000) (disch := omega) [-Int.not_lt, -Int.not_le, -Nat.not_lt, -Nat.not_le, sx, aA0, ae0, hpE, Stm.kind, Stm.name, Stm.slot, Stm.state, Stm.num, Stm.e, Stm.body, Stm.els, Stm.at_]
 refine aa0 [] ?_
 simp
 have hO := an0
 try simp [ae0, ad0] at hO
 refine ab0 22 hO ?_
 refine rS0 ?_
 refine aa0 [] ?_
 simp
 have hO := hN
 try simp [ae0, ad0] at hO
 refine ab0 39 hO ?_
 refine rS0 ?_
 refine aa0 [.e 0, .e 1] ?_
 simp
 have hO := as0 (bs) [[115, 101, 116, 32], sB name] (by simp only [List.flatten_cons, List.flatten_nil, List.append_nil, List.length_append, List.length_cons, List.length_nil]; omega) (by simp)
 try simp [ae0, ad0] at hO
 refine ab0 41 hO ?_
 refine rS0 ?_
 refine aa0 [.e 0, .l 41 0] ?_
 simp
 have hO := as0 (bs ++ [[115, 101, 116, 32], sB name].flatten) [[91]] (by simp only [List.flatten_cons, List.flatten_nil, List.append_nil, List.length_append, List.length_cons, List.length_nil]; omega) (by simp)
 try simp [ae0, ad0] at hO
 refine ab0 46 hO ?_
 refine rS0 ?_
 refine aa0 [.e 0, .l 46 0] ?_
 simp
 have hO := ha (bs ++ [[115, 101, 116, 32], sB name].flatten ++ [[91]].flatten) (by simp only [List.flatten_cons, List.flatten_nil, List.append_nil, List.length_append, List.length_cons, List.length_nil]; omega)
 try simp [ae0, ad0] at hO
 refine ab0 52 hO ?_
 refine rS0 ?_
 refine aa0 [.e 0, .l 52 0] ?_
 simp
 have hO := as0 (bs ++ [[115, 101, 116, 32], sB name].flatten ++ [[91]].flatten ++ a) [[93]] (by simp only [List.flatten_cons, List.flatten_nil, List.append_nil, List.length_append, List.length_cons, List.length_nil]; omega) (by simp)
 try simp [ae0, ad0] at hO
 refine ab0 55 hO ?_
 refine rS0 ?_
 refine aa0 [.e 0, .l 55 0] ?_
 simp
 have hO := as0 (bs ++ [[115, 101, 116, 32], sB name].flatten ++ [[91]].flatten ++ a ++ [[93]].flatten) [[32, 61, 32]] (by simp only [List.flatten_cons, List.flatten_nil, List.append_nil, List.length_append, List.length_cons, List.length_nil]; omega) (by simp)
 try simp [ae0, ad0] at hO
 refine ab0 58 hO ?_
 refine rS0 ?_
 refine aa0 [.e 0, .l 58 0] ?_
 simp
 have hO := hc (bs ++ [[115, 101, 116, 32], sB name].flatten ++ [[91]].flatten ++ a ++ [[93]].flatten ++ [[32, 61, 32]].flatten) (by simp only [List.flatten_cons, List.flatten_nil, List.append_nil, List.length_append, List.length_cons, List.length_nil]; omega)
 try simp [ae0, ad0] at hO
 refine ab0 91 hO ?_
 refine rS0 ?_
 refine aa0 [.e 0, .l 91 0] ?_
 simp
 have hO := as0 (bs ++ [[115, 101, 116, 32], sB name].flatten ++ [[91]].flatten ++ a ++ [[93]].flatten ++ [[32, 61, 32]].flatten ++ c) [[59]] (by simp only [List.flatten_cons, List.flatten_nil, List.append_nil, List.length_append, List.length_cons, List.length_nil]; omega) (by simp)
 try simp [ae0, ad0] at hO
 refine ab0 96 hO ?_
 refine rS0 ?_
 refine bX0 [.l 96 0] ?_
 exact rT9 @ad0.eq_1 @fg0.eq_1 @em0.eq_1 @fe0.eq_1 @kwIf.eq_1 @cp0.eq_1 @ff0.eq_1 @kwTo.eq_1 @fh0.eq_1
set_option maxHeartbeats 3200000 in
theorem st_del (name : ByteArray) (slot : Int) (state : Bool) (num : Int) (body els : List Stm) (at_ : Int) (n : Nat) (x : Exq) (a : Bs) (h : c70 (sB name) = true) (ha : db0 x a) : mA0 n (.mk 3 name slot state num [x] body els at_) (fe0 ++ [32] ++ sB name ++ [91] ++ a ++ [93, 59]) := by
 intro bs hl
 simp only [List.length_append, List.length_cons, List.length_nil, fg0, em0, fe0, kwIf, cp0, ff0, kwTo, fh0] at hl
 have hN := ha0 h
 rw [pv0] at hN
 refine at0 aD0 (by simp [ae0]) ?_
 rw [Stm.V, Stm.ac0]
 simp +contextual (maxSteps := 2000000) (disch := omega) [-Int.not_lt, -Int.not_le, -Nat.not_lt, -Nat.not_le, sx, aA0, ae0, hpE, Stm.kind, Stm.name, Stm.slot, Stm.state, Stm.num, Stm.e, Stm.body, Stm.els, Stm.at_]
 refine aa0 [] ?_
 simp
 have hO := an0
 try simp [ae0, ad0] at hO
 refine ab0 22 hO ?_
 refine rS0 ?_
 refine aa0 [] ?_
 simp
 have hO := hN
 try simp [ae0, ad0] at hO
 refine ab0 64 hO ?_
 refine rS0 ?_
 refine aa0 [.e 0, .e 1] ?_
 simp
 have hO := as0 (bs) [[100, 101, 108, 32], sB name, [91]] (by simp only [List.flatten_cons, List.flatten_nil, List.append_nil, List.length_append, List.length_cons, List.length_nil]; omega) (by simp)
 try simp [ae0, ad0] at hO
 refine ab0 66 hO ?_
 refine rS0 ?_
 refine aa0 [.e 0, .l 66 0] ?_
 simp
 have hO := ha (bs ++ [[100, 101, 108, 32], sB name, [91]].flatten) (by simp only [List.flatten_cons, List.flatten_nil, List.append_nil, List.length_append, List.length_cons, List.length_nil]; omega)
 try simp [ae0, ad0] at hO
 refine ab0 91 hO ?_
 refine rS0 ?_
 refine aa0 [.e 0, .l 91 0] ?_
 simp
 have hO := as0 (bs ++ [[100, 101, 108, 32], sB name, [91]].flatten ++ a) [[93, 59]] (by simp only [List.flatten_cons, List.flatten_nil, List.append_nil, List.length_append, List.length_cons, List.length_nil]; omega) (by simp)
 try simp [ae0, ad0] at hO
 refine ab0 101 hO ?_
 refine rS0 ?_
 refine bX0 [.l 101 0] ?_
 exact rT9 @ad0.eq_1 @fg0.eq_1 @em0.eq_1 @fe0.eq_1 @kwIf.eq_1 @cp0.eq_1 @ff0.eq_1 @kwTo.eq_1 @fh0.eq_1
set_option maxHeartbeats 3200000 in
theorem st_if0 (name : ByteArray) (slot : Int) (state : Bool) (num : Int) (body : List Stm) (at_ : Int) (n : Nat) (x : Exq) (a b : Bs) (ha : db0 x a) (hb : nA0 n body b) : mA0 n (.mk 4 name slot state num [x] body [] at_) (kwIf ++ [32] ++ a ++ [32] ++ b) := by
 intro bs hl
 simp only [List.length_append, List.length_cons, List.length_nil, fg0, em0, fe0, kwIf, cp0, ff0, kwTo, fh0] at hl
 refine at0 aD0 (by simp [ae0]) ?_
 rw [Stm.V, Stm.ac0]
 simp +contextual (maxSteps := 2000000) (disch := omega) [-Int.not_lt, -Int.not_le, -Nat.not_lt, -Nat.not_le, sx, aA0, ae0, hpE, Stm.kind, Stm.name, Stm.slot, Stm.state, Stm.num, Stm.e, Stm.body, Stm.els, Stm.at_]
 refine aa0 [] ?_
 simp
 have hO := an0
 try simp [ae0, ad0] at hO
 refine ab0 22 hO ?_
 refine rS0 ?_
 refine aa0 [.e 0, .e 1] ?_
 simp
 have hO := as0 (bs) [[105, 102, 32]] (by simp only [List.flatten_cons, List.flatten_nil, List.append_nil, List.length_append, List.length_cons, List.length_nil]; omega) (by simp)
 try simp [ae0, ad0] at hO
 refine ab0 71 hO ?_
 refine rS0 ?_
 refine aa0 [.e 0, .l 71 0] ?_
 simp
 have hO := ha (bs ++ [[105, 102, 32]].flatten) (by simp only [List.flatten_cons, List.flatten_nil, List.append_nil, List.length_append, List.length_cons, List.length_nil]; omega)
 try simp [ae0, ad0] at hO
 refine ab0 91 hO ?_
 refine rS0 ?_
 refine aa0 [.e 0, .l 91 0] ?_
 simp
 have hO := as0 (bs ++ [[105, 102, 32]].flatten ++ a) [[32]] (by simp only [List.flatten_cons, List.flatten_nil, List.append_nil, List.length_append, List.length_cons, List.length_nil]; omega) (by simp)
 try simp [ae0, ad0] at hO
 refine ab0 107 hO ?_
 refine rS0 ?_
 refine aa0 [.e 0, .l 107 0] ?_
 simp
 have hO := hb (bs ++ [[105, 102, 32]].flatten ++ a ++ [[32]].flatten) (by simp only [List.flatten_cons, List.flatten_nil, List.append_nil, List.length_append, List.length_cons, List.length_nil]; omega)
 try simp [ae0, ad0] at hO
 refine ab0 112 hO ?_
 refine rS0 ?_
 refine bX0 [.l 112 0] ?_
 exact rT9 @ad0.eq_1 @fg0.eq_1 @em0.eq_1 @fe0.eq_1 @kwIf.eq_1 @cp0.eq_1 @ff0.eq_1 @kwTo.eq_1 @fh0.eq_1
set_option maxHeartbeats 3200000 in
theorem st_if1 (name : ByteArray) (slot : Int) (state : Bool) (num : Int) (body els : List Stm) (at_ : Int) (n : Nat) (x : Exq) (a b c : Bs) (hne : els ≠ []) (ha : db0 x a) (hb : nA0 n body b) (hc : nA0 n els c) : mA0 n (.mk 4 name slot state num [x] body els at_) (kwIf ++ [32] ++ a ++ [32] ++ b ++ ([32] ++ cp0 ++ [32] ++ c)) := by
 intro bs hl
 have hpos : (0 : Int) < els.length := by have := List.length_pos_iff.2 hne; omega
 simp only [List.length_append, List.length_cons, List.length_nil, fg0, em0, fe0, kwIf, cp0, ff0, kwTo, fh0] at hl
 refine at0 aD0 (by simp [ae0]) ?_
 rw [Stm.V, Stm.ac0]
 simp +contextual (maxSteps := 2000000) (disch := omega) [-Int.not_lt, -Int.not_le, -Nat.not_lt, -Nat.not_le, sx, aA0, ae0, hpE, Stm.kind, Stm.name, Stm.slot, Stm.state, Stm.num, Stm.e, Stm.body, Stm.els, Stm.at_]
 refine aa0 [] ?_
 simp
 have hO := an0
 try simp [ae0, ad0] at hO
 refine ab0 22 hO ?_
 refine rS0 ?_
 refine aa0 [.e 0, .e 1] ?_
 simp
 have hO := as0 (bs) [[105, 102, 32]] (by simp only [List.flatten_cons, List.flatten_nil, List.append_nil, List.length_append, List.length_cons, List.length_nil]; omega) (by simp)
 try simp [ae0, ad0] at hO
 refine ab0 71 hO ?_
 refine rS0 ?_
 refine aa0 [.e 0, .l 71 0] ?_
 simp
 have hO := ha (bs ++ [[105, 102, 32]].flatten) (by simp only [List.flatten_cons, List.flatten_nil, List.append_nil, List.length_append, List.length_cons, List.length_nil]; omega)
 try simp [ae0, ad0] at hO
 refine ab0 91 hO ?_
 refine rS0 ?_
 refine aa0 [.e 0, .l 91 0] ?_
 simp
 have hO := as0 (bs ++ [[105, 102, 32]].flatten ++ a) [[32]] (by simp only [List.flatten_cons, List.flatten_nil, List.append_nil, List.length_append, List.length_cons, List.length_nil]; omega) (by simp)
 try simp [ae0, ad0] at hO
 refine ab0 107 hO ?_
 refine rS0 ?_
 refine aa0 [.e 0, .l 107 0] ?_
 simp
 have hO := hb (bs ++ [[105, 102, 32]].flatten ++ a ++ [[32]].flatten) (by simp only [List.flatten_cons, List.flatten_nil, List.append_nil, List.length_append, List.length_cons, List.length_nil]; omega)
 try simp [ae0, ad0] at hO
 refine ab0 112 hO ?_
 refine rS1 hpos ?_
 refine aa0 [.e 0, .l 112 0] ?_
 simp
 have hO := as0 (bs ++ [[105, 102, 32]].flatten ++ a ++ [[32]].flatten ++ b) [[32, 101, 108, 115, 101, 32]] (by simp only [List.flatten_cons, List.flatten_nil, List.append_nil, List.length_append, List.length_cons, List.length_nil]; omega) (by simp)
 try simp [ae0, ad0] at hO
 refine ab0 124 hO ?_
 refine rS0 ?_
 refine aa0 [.e 0, .l 124 0] ?_
 simp
 have hO := hc (bs ++ [[105, 102, 32]].flatten ++ a ++ [[32]].flatten ++ b ++ [[32, 101, 108, 115, 101, 32]].flatten) (by simp only [List.flatten_cons, List.flatten_nil, List.append_nil, List.length_append, List.length_cons, List.length_nil]; omega)
 try simp [ae0, ad0] at hO
 refine ab0 129 hO ?_
 refine rS0 ?_
 refine bX0 [.l 129 0] ?_
 exact rT9 @ad0.eq_1 @fg0.eq_1 @em0.eq_1 @fe0.eq_1 @kwIf.eq_1 @cp0.eq_1 @ff0.eq_1 @kwTo.eq_1 @fh0.eq_1
set_option maxHeartbeats 3200000 in
theorem st_for (name : ByteArray) (slot : Int) (state : Bool) (num : Int) (body els : List Stm) (at_ : Int) (n : Nat) (x : Exq) (a b : Bs) (h : c70 (sB name) = true) (ha : db0 x a) (hb : nA0 n body b) : mA0 n (.mk 5 name slot state num [x] body els at_) (ff0 ++ [32] ++ sB name ++ [32] ++ kwTo ++ [32] ++ a ++ [32] ++ b) := by
 intro bs hl
 simp only [List.length_append, List.length_cons, List.length_nil, fg0, em0, fe0, kwIf, cp0, ff0, kwTo, fh0] at hl
 have hN := ha0 h
 rw [pv0] at hN
 refine at0 aD0 (by simp [ae0]) ?_
 rw [Stm.V, Stm.ac0]
 simp +contextual (maxSteps := 2000000) (disch := omega) [-Int.not_lt, -Int.not_le, -Nat.not_lt, -Nat.not_le, sx, aA0, ae0, hpE, Stm.kind, Stm.name, Stm.slot, Stm.state, Stm.num, Stm.e, Stm.body, Stm.els, Stm.at_]
 refine aa0 [] ?_
 simp
 have hO := an0
 try simp [ae0, ad0] at hO
 refine ab0 22 hO ?_
 refine rS0 ?_
 refine aa0 [] ?_
 simp
 have hO := hN
 try simp [ae0, ad0] at hO
 refine ab0 77 hO ?_
 refine rS0 ?_
 refine aa0 [.e 0, .e 1] ?_
 simp
 have hO := as0 (bs) [[102, 111, 114, 32], sB name, [32, 116, 111, 32]] (by simp only [List.flatten_cons, List.flatten_nil, List.append_nil, List.length_append, List.length_cons, List.length_nil]; omega) (by simp)
 try simp [ae0, ad0] at hO
 refine ab0 79 hO ?_
 refine rS0 ?_
 refine aa0 [.e 0, .l 79 0] ?_
 simp
 have hO := ha (bs ++ [[102, 111, 114, 32], sB name, [32, 116, 111, 32]].flatten) (by simp only [List.flatten_cons, List.flatten_nil, List.append_nil, List.length_append, List.length_cons, List.length_nil]; omega)
 try simp [ae0, ad0] at hO
 refine ab0 91 hO ?_
 refine rS0 ?_
 refine aa0 [.e 0, .l 91 0] ?_
 simp
 have hO := as0 (bs ++ [[102, 111, 114, 32], sB name, [32, 116, 111, 32]].flatten ++ a) [[32]] (by simp only [List.flatten_cons, List.flatten_nil, List.append_nil, List.length_append, List.length_cons, List.length_nil]; omega) (by simp)
 try simp [ae0, ad0] at hO
 refine ab0 107 hO ?_
 refine rS0 ?_
 refine aa0 [.e 0, .l 107 0] ?_
 simp
 have hO := hb (bs ++ [[102, 111, 114, 32], sB name, [32, 116, 111, 32]].flatten ++ a ++ [[32]].flatten) (by simp only [List.flatten_cons, List.flatten_nil, List.append_nil, List.length_append, List.length_cons, List.length_nil]; omega)
 try simp [ae0, ad0] at hO
 refine ab0 112 hO ?_
 refine rS0 ?_
 refine bX0 [.l 112 0] ?_
 exact rT9 @ad0.eq_1 @fg0.eq_1 @em0.eq_1 @fe0.eq_1 @kwIf.eq_1 @cp0.eq_1 @ff0.eq_1 @kwTo.eq_1 @fh0.eq_1
set_option maxHeartbeats 3200000 in
theorem st_ret (name : ByteArray) (slot : Int) (state : Bool) (num : Int) (body els : List Stm) (at_ : Int) (n : Nat) (x : Exq) (a : Bs) (ha : db0 x a) : mA0 n (.mk 6 name slot state num [x] body els at_) (fh0 ++ [32] ++ a ++ [59]) := by
 intro bs hl
 simp only [List.length_append, List.length_cons, List.length_nil, fg0, em0, fe0, kwIf, cp0, ff0, kwTo, fh0] at hl
 refine at0 aD0 (by simp [ae0]) ?_
 rw [Stm.V, Stm.ac0]
 simp +contextual (maxSteps := 2000000) (disch := omega) [-Int.not_lt, -Int.not_le, -Nat.not_lt, -Nat.not_le, sx, aA0, ae0, hpE, Stm.kind, Stm.name, Stm.slot, Stm.state, Stm.num, Stm.e, Stm.body, Stm.els, Stm.at_]
 refine aa0 [] ?_
 simp
 have hO := an0
 try simp [ae0, ad0] at hO
 refine ab0 22 hO ?_
 refine rS0 ?_
 refine aa0 [.e 0, .e 1] ?_
 simp
 have hO := as0 (bs) [[114, 101, 116, 32]] (by simp only [List.flatten_cons, List.flatten_nil, List.append_nil, List.length_append, List.length_cons, List.length_nil]; omega) (by simp)
 try simp [ae0, ad0] at hO
 refine ab0 84 hO ?_
 refine rS0 ?_
 refine aa0 [.e 0, .l 84 0] ?_
 simp
 have hO := ha (bs ++ [[114, 101, 116, 32]].flatten) (by simp only [List.flatten_cons, List.flatten_nil, List.append_nil, List.length_append, List.length_cons, List.length_nil]; omega)
 try simp [ae0, ad0] at hO
 refine ab0 91 hO ?_
 refine rS0 ?_
 refine aa0 [.e 0, .l 91 0] ?_
 simp
 have hO := as0 (bs ++ [[114, 101, 116, 32]].flatten ++ a) [[59]] (by simp only [List.flatten_cons, List.flatten_nil, List.append_nil, List.length_append, List.length_cons, List.length_nil]; omega) (by simp)
 try simp [ae0, ad0] at hO
 refine ab0 96 hO ?_
 refine rS0 ?_
 refine bX0 [.l 96 0] ?_
 exact rT9 @ad0.eq_1 @fg0.eq_1 @em0.eq_1 @fe0.eq_1 @kwIf.eq_1 @cp0.eq_1 @ff0.eq_1 @kwTo.eq_1 @fh0.eq_1
theorem ns0 (n : Nat) : tabs n ++ [9] = tabs (n + 1) := by unfold tabs; rw [List.replicate_succ']
theorem cC0 (n : Nat) : (tabs n).length = n := by simp [tabs]
theorem qG0 (n : Nat) : nA0 n [] [123, 125] := by
 intro bs hl
 refine at0 eZ0 (by simp [ae0]) ?_
 refine rS4 @c10.eq_1 @ae0.eq_1 @hpE.eq_1 @hpE.eq_2 ?_
 refine aa0 [.e 0, .e 1] ?_
 simp
 have hO := as0 bs [[123, 125]] (by simpa using hl) (by simp)
 try simp [ae0, ad0, cC0, Stm.V] at hO
 refine ab0 13 hO ?_
 refine rS0 ?_
 refine ax0 [.l 13 0] ?_
 exact rT1 @ad0.eq_1
set_option maxHeartbeats 1600000 in
theorem r50 (n : Nat) (l : List Stm) (ts : List Bs) (hne : l ≠ []) (hlen : ts.length = l.length) (hx : l.length < 2 ^ 30) (h : ∀ i (hi : i < l.length), mA0 (n + 1) l[i] (ts[i]'(by omega))) :
  nA0 n l ([123, 10] ++ (ts.map fun a => tabs (n + 1) ++ a ++ [10]).flatten ++ tabs n ++ [125]) := by
 intro bs hl
 generalize hM : (ts.map fun a => tabs (n + 1) ++ a ++ [10]) = M at *
 have hMl : M.length = l.length := by rw [<- hM]; simp [hlen]
 have hMg : ∀ i (hi : i < l.length), M[i]'(by omega) = tabs (n + 1) ++ ts[i]'(by omega) ++ [10] := fun i hi => by simp [<- hM]
 rw [<- b50, hMl] at hl ⊢
 have hpos : ¬ (l.length : Int) = 0 := by have := List.length_pos_iff.2 hne; omega
 simp only [List.length_append, List.length_cons, List.length_nil, cC0] at hl
 have htl := cC0 n
 refine at0 eZ0 (by simp [ae0]) ?_
 refine rS6 @c10.eq_1 @ae0.eq_1 @hpE.eq_1 @hpE.eq_2 hpos hne ?_
 refine aa0 [.e 0, .e 1] ?_
 simp
 have hO := as0 bs [[123, 10]] (by simp; omega) (by simp)
 try simp [ae0, ad0, cC0, Stm.V] at hO
 refine ab0 16 hO ?_
 refine rS0 ?_
 refine aN0 l.length (fun i => [(19, vI i), (18, vI l.length), (17, .lst (l.map Stm.cells)), (0, .bp (.e 0) 0), (2, vS (bS (tabs n)))])
  (fun i => [(.e 0, .box [.self (.e 0) 69, .arr (.l 999 0) 0 (bs ++ [123, 10] ++ aZ0 M i).length]), (.l 999 0, .row 5 1 true ((bs ++ [123, 10] ++ aZ0 M i).map ao0))])
  (Wk.rens (.l 16 0) (.l 999 0) rfl (by simp) (by simp [renF, bj0]) (by simp [renF, bO0, bj0])) ?_
 intro i hi
 by_cases hlt : i < l.length
 ·have hlt' : (i : Int) < l.length := by omega
  have hle := h60 M (i + 1)
  rw [<- b50, hMl] at hle
  have hsucc := eE0 (L := M) (i := i) (by omega)
  rw [hMg i hlt] at hsucc
  have hle2 := hle
  rw [hsucc] at hle2
  simp only [List.length_append, List.length_cons, List.length_nil, cC0] at hle2
  have hP := h i hlt
  have hts : (bS (tabs n)) ++ ⟨⟨[9]⟩⟩ = bS (tabs (n + 1)) := by rw [<- ns0]; exact fT0 _ _
  refine rS4 hlt' hts @dn0 htl ?_
  refine aa0 [.e 0, .l 999 0] ?_
  simp
  have hO := as0 (bs ++ [123, 10] ++ aZ0 M i) [tabs n, [9]] (by simp only [List.flatten_cons, List.flatten_nil, List.append_nil, List.length_append, List.length_cons, List.length_nil, cC0]; omega) (by simp)
  try simp [ae0, ad0, cC0, Stm.V] at hO
  refine ab0 26 hO ?_
  refine rS3 hts @dn0 htl ?_
  refine aa0 [.e 0, .l 26 0] ?_
  simp
  have hO := hP (bs ++ [123, 10] ++ aZ0 M i ++ [tabs n, [9]].flatten) (by simp only [List.flatten_cons, List.flatten_nil, List.append_nil, List.length_append, List.length_cons, List.length_nil, cC0]; omega)
  try simp [ae0, ad0, cC0, Stm.V] at hO
  refine ab0 31 hO ?_
  refine rS0 ?_
  refine aa0 [.e 0, .l 31 0] ?_
  simp
  have hO := as0 (bs ++ [123, 10] ++ aZ0 M i ++ [tabs n, [9]].flatten ++ ts[i]'(by omega)) [[10]] (by simp only [List.flatten_cons, List.flatten_nil, List.append_nil, List.length_append, List.length_cons, List.length_nil, cC0]; omega) (by simp)
  try simp [ae0, ad0, cC0, Stm.V] at hO
  refine ab0 34 hO ?_
  refine rS0 ?_
  have htt : ∀ z : Bs, tabs n ++ 9 :: z = tabs (n + 1) ++ z := fun z => by rw [<- ns0]; simp
  have hflat : bs ++ [123, 10] ++ aZ0 M i ++ [tabs n, [9]].flatten ++ (ts[i]'(by omega)) ++ [10] = bs ++ [123, 10] ++ aZ0 M (i + 1) := by
   rw [hsucc, <- ns0]; simp
  have e1 := congrArg List.length hflat
  have e2 := congrArg (List.map ao0) hflat
  simp [cC0] at e1 e2
  refine .of hlt (Wk.rens (.l 34 0) (.l 999 0) rfl (by simp) (by simp [renF]) (by simp [renF, bO0, e1, e2]))
 ·have hge' : ¬ (i : Int) < l.length := by omega
  have : i = l.length := by omega
  subst this
  refine rS1 hge' ?_
  refine aa0 [.e 0, .l 999 0] ?_
  simp
  have hO := as0 (bs ++ [123, 10] ++ aZ0 M l.length) [tabs n, [125]] (by simp only [List.flatten_cons, List.flatten_nil, List.append_nil, List.length_append, List.length_cons, List.length_nil, cC0]; omega) (by simp)
  try simp [ae0, ad0, cC0, Stm.V] at hO
  refine ab0 39 hO ?_
  refine rS0 ?_
  refine bX0 [.l 39 0] ?_
  exact rT2 @ad0.eq_1 @cC0
theorem rO0 : ∀ {n : Nat} {l : List Stm} {t : Bs}, shT n l = some t -> ∃ ts : List Bs, ts.length = l.length /\ (∀ i (hi : i < l.length) (hi2 : i < ts.length), shS (n + 1) l[i] = some ts[i]) /\ t = (ts.map fun a => tabs (n + 1) ++ a ++ [10]).flatten
 | n, [], t, h => by rw [shT.eq_def] at h; simp at h; subst h; exact ⟨[], rfl, fun i hi => by simp at hi, rfl⟩
 | n, x :: l, t, h => by
  rw [shT.eq_def] at h
  dsimp only at h
  split at h
  ·rename_i a b h1 h2
   injection h with h; subst h
   obtain ⟨ts, g1, g2, g3⟩ := rO0 h2
   refine ⟨a :: ts, by simp [g1], fun i hi hi2 => ?_, by simp [g3]⟩
   cases i with
   | zero => exact h1
   | succ i => exact g2 i (by simpa using hi) (by simpa using hi2)
  ·cases h
theorem o10 : ∀ {l : List Stm}, plB l = true -> ∀ x ∈ l, plS x = true
 | [], _, x, hx => by simp at hx
 | y :: l, h, x, hx => by
  rw [plB, Bool.and_eq_true] at h
  rcases List.mem_cons.1 hx with rfl | hx
  ·exact h.1
  ·exact o10 h.2 x hx
theorem o40 {n : Nat} {l : List Stm} {t : Bs} (hx : l.length < 2 ^ 30) (h : shB n l = some t) (hp : ∀ x ∈ l, ∀ {t : Bs}, shS (n + 1) x = some t -> mA0 (n + 1) x t) : nA0 n l t := by
 cases l with
 | nil => rw [shB.eq_def] at h; simp at h; subst h; exact qG0 n
 | cons x l =>
  rw [rN0] at h
  cases hT : shT n (x :: l) with
  | none => rw [hT] at h; cases h
  | some q =>
   rw [hT] at h
   simp only [Option.map_some, Option.some.injEq] at h
   subst h
   obtain ⟨ts, g1, g2, rfl⟩ := rO0 hT
   exact r50 n (x :: l) ts (by simp) g1 hx fun i hi => hp _ (List.getElem_mem hi) (g2 i hi (by omega))
theorem putsS : ∀ (m n : Nat) (x : Stm), SizeOf.sizeOf x < m -> plS x = true -> ∀ {t : Bs}, shS n x = some t -> mA0 n x t := by
 intro m
 induction m with
 | zero => intro n x h; omega
 | succ m ih =>
  intro n x hm hp t h
  obtain ⟨k, name, slot, state, num, e, body, els, at_⟩ := x
  rw [plS] at hp
  simp only [Bool.and_eq_true, decide_eq_true_eq] at hp
  obtain ⟨⟨⟨p1, _, p2, p3⟩, p4⟩, p5⟩ := hp
  have hpl := q00 p1
  have hsz1 : ∀ y ∈ body, SizeOf.sizeOf y < m := fun y hy => by
   have := List.sizeOf_lt_of_mem hy
   simp only [Stm.mk.sizeOf_spec] at hm; omega
  have hsz2 : ∀ y ∈ els, SizeOf.sizeOf y < m := fun y hy => by
   have := List.sizeOf_lt_of_mem hy
   simp only [Stm.mk.sizeOf_spec] at hm; omega
  have hE : ∀ {ts : List Bs}, shL e = some ts -> ∀ i (hi : i < e.length) (hi2 : i < ts.length), db0 e[i] ts[i] := fun hL i hi hi2 => putsE _ _ (Nat.lt_succ_self _) (hpl _ (List.getElem_mem hi)) ((lL0 hL).2 i hi hi2)
  have hB : ∀ {t : Bs}, shB n body = some t -> nA0 n body t := fun h => o40 p2 h fun x hx t ht => ih (n + 1) x (hsz1 x hx) (o10 p4 x hx) ht
  have hC : ∀ {t : Bs}, shB n els = some t -> nA0 n els t := fun h => o40 p3 h fun x hx t ht => ih (n + 1) x (hsz2 x hx) (o10 p5 x hx) ht
  have one : ∀ {a : Bs}, shL e = some [a] -> ∃ x, e = [x] /\ db0 x a := fun {a} hL => by
   obtain ⟨g1, _⟩ := lL0 hL
   have g := hE hL
   match e, g1, g with
   | [x], _, g => exact ⟨x, rfl, g 0 (by simp) (by simp)⟩
  have two : ∀ {a b : Bs}, shL e = some [a, b] -> ∃ x y, e = [x, y] /\ db0 x a /\ db0 y b := fun {a b} hL => by
   obtain ⟨g1, _⟩ := lL0 hL
   have g := hE hL
   match e, g1, g with
   | [x, y], _, g => exact ⟨x, y, rfl, g 0 (by simp) (by simp), g 1 (by simp) (by simp)⟩
  rw [shS.eq_def] at h
  dsimp only at h
  by_cases k1 : k = 1
  ·subst k1
   rw [if_pos rfl] at h
   split at h
   ·rename_i a hL
    obtain ⟨x, rfl, ha⟩ := one hL
    split at h
    ·rename_i hn; injection h with h; subst h
     exact st_let name slot state num body els at_ n x a hn ha
    ·cases h
   ·cases h
  rw [if_neg k1] at h
  by_cases k2 : k = 2
  ·subst k2
   rw [if_pos rfl] at h
   split at h
   ·rename_i a hL
    obtain ⟨x, rfl, ha⟩ := one hL
    split at h
    ·rename_i hn; injection h with h; subst h
     exact st_set1 name slot state num body els at_ n x a hn ha
    ·cases h
   ·rename_i a b hL
    obtain ⟨x, y, rfl, ha, hb⟩ := two hL
    split at h
    ·rename_i hn; injection h with h; subst h
     exact st_set2 name slot state num body els at_ n x y a b hn ha hb
    ·cases h
   ·cases h
  rw [if_neg k2] at h
  by_cases k3 : k = 3
  ·subst k3
   rw [if_pos rfl] at h
   split at h
   ·rename_i a hL
    obtain ⟨x, rfl, ha⟩ := one hL
    split at h
    ·rename_i hn; injection h with h; subst h
     exact st_del name slot state num body els at_ n x a hn ha
    ·cases h
   ·cases h
  rw [if_neg k3] at h
  by_cases k4 : k = 4
  ·subst k4
   rw [if_pos rfl] at h
   split at h
   ·rename_i a b c hL hb hc
    obtain ⟨x, rfl, ha⟩ := one hL
    injection h with h; subst h
    by_cases hne : els = []
    ·subst hne
     rw [if_pos rfl, List.append_nil]
     exact st_if0 name slot state num body at_ n x a b ha (hB hb)
    ·rw [if_neg hne]
     exact st_if1 name slot state num body els at_ n x a b c hne ha (hB hb) (hC hc)
   ·cases h
  rw [if_neg k4] at h
  by_cases k5 : k = 5
  ·subst k5
   rw [if_pos rfl] at h
   split at h
   ·rename_i a b hL hb
    obtain ⟨x, rfl, ha⟩ := one hL
    split at h
    ·rename_i hn; injection h with h; subst h
     exact st_for name slot state num body els at_ n x a b hn ha (hB hb)
    ·cases h
   ·cases h
  rw [if_neg k5] at h
  by_cases k6 : k = 6
  ·subst k6
   rw [if_pos rfl] at h
   split at h
   ·rename_i a hL
    obtain ⟨x, rfl, ha⟩ := one hL
    injection h with h; subst h
    exact st_ret name slot state num body els at_ n x a ha
   ·cases h
  ·rw [if_neg k6] at h; cases h
attribute [local irreducible] vcF dfrS dEnd kN0 dJ JD
theorem IsTy.len {d : Nat} {s : Bs} (h : IsTy d s) : s.length <= 7 * d := by
 induction h with
 | base h => rcases jn0 h with rfl | rfl | rfl <;> simp [gE0, el0, dk0]
 | list h ih => simp; omega
 | mapI h ih => simp [dl0]; omega
 | mapT h ih => simp [ce0]; omega
theorem lk0 {s : Bs} (h : rc0 s = true) : s.length < 2 ^ 40 := by
 obtain ⟨d, hd, hr⟩ := tyB_is h
 have := hd.len
 omega
theorem nq0 (x : Slo) {t : Bs} (h : iv0 x = some t) : Ret prog mR0 [x.V] (vS (bS t)) := by
 unfold iv0 at h
 split at h
 ·rename_i hb
  rw [Bool.and_eq_true] at hb
  injection h with h
  have ha : x.name ++ ⟨⟨[58, 32]⟩⟩ ++ x.type = bS t := by
   rw [<- h, <- fT0, <- fT0]; try rfl
  have hn : x.name.size <= 16 := p50 hb.2
  have hty : x.type.size < 2 ^ 40 := lk0 hb.1
  have h2 : (⟨⟨[58, 32]⟩⟩ : ByteArray).size = 2 := rfl
  have hn1 : x.name.size + (⟨⟨[58, 32]⟩⟩ : ByteArray).size <= 9223372036854775807 := by omega
  have hn2 : x.name.size + (⟨⟨[58, 32]⟩⟩ : ByteArray).size + x.type.size <= 9223372036854775807 := by omega
  have hn3 : x.name.size <= 9223372036854775807 := by omega
  refine at0 pK0 (by simp) ?_
  refine rS2 @lU0.eq_1 @Slo.V.eq_1 ?_
  refine ak0 ?_; simp; refine ah0 (hd0 (sB x.type) (lk0 hb.1)) (by simp) ?_
  rw [hb.1]
  refine rS0 ?_
  refine aa0 [] ?_
  simp
  have hO := an0
  try simp [ae0, ad0] at hO
  refine ab0 6 hO ?_
  refine rS0 ?_
  refine dd0 ?_; simp; refine ah0 ((show Ret prog eD0 [vS x.name] (vS x.name) from ha0 hb.2)) (by simp) ?_
  refine rS4 ha hn1 hn2 hn3 ?_
  refine ax0 [] ?_
  exact rT0
 ·cases h
theorem put_nil (L : List Bs) (hl : L.flatten.length < 2 ^ 40) (hL : L.length < 2 ^ 30) :
  J prog cU0 [.bp (.e 0) 0, .lst (L.map aQ0)] (aB0 69) (· = .ret (.tup []) (ae0 69 L.flatten)) := by
 rw [<- b50] at *
 refine at0 dD0 (by simp [aB0]) ?_
 refine rS4 @cw0.eq_1 @aB0.eq_1 @hpE.eq_1 @hpE.eq_2 ?_
 refine aN0 L.length (fun i => [(8, vI i), (7, vI L.length), (6, .lst (L.map aQ0)), (0, .bp (.e 0) 0)])
  (fun i => [(.e 0, .box [.self (.e 0) 69, .arr (.l 999 0) 0 (aZ0 L i).length]), (.l 999 0, .row 5 1 true ((aZ0 L i).map ao0))])
  (Wk.trans (Wk.subs (by simp) (by simp [bj0])) (Wk.rowB (b := .e 0) (id := .l 999 0) (off := 1) (ty := 5) (sz := 1) rfl rfl (by simp) (by simp))) ?_
 intro i hi
 by_cases hlt : i < L.length
 ·have hlt' : (i : Int) < L.length := by omega
  have hle := h60 L (i + 1)
  rw [<- b50] at hle
  have hsucc := eE0 hlt
  have hlen : (aZ0 L (i + 1)).length = (aZ0 L i).length + L[i].length := by rw [hsucc, List.length_append]
  refine rS1 hlt' ?_
  refine aa0 [.e 0, .l 999 0] ?_
  simp
  have hO := e80 69 (aZ0 L i) L[i] hT69 (by omega)
  try simp [ae0, ad0] at hO
  refine ab0 16 hO ?_
  refine rS0 ?_
  refine .of hlt (Wk.rens (.l 16 0) (.l 999 0) rfl (by simp) (by simp [renF, hsucc]) (by simp [renF, bO0, hsucc]))
 ·have hge' : ¬ (i : Int) < L.length := by omega
  have : i = L.length := by omega
  subst this
  refine rS1 hge' ?_
  refine bX0 [.l 999 0] ?_
  exact rT1 @ae0.eq_1
theorem iw0 (s : Bs) (n : Int) : JD prog true kP0 [.bp (.e 0) 0, .bp (.e 1) 0] [.box [vS (bS s)], .box [vI n]] none (· = .ret (.tup []) [.box [vS (bS s)], .box [vI n]]) := by
 refine JR_of nJ0 (by simp) (by simp) ?_
 refine rS5 @j50.eq_1 @hpE.eq_1 @hpE.eq_2 @pvV.eq_1 @pvV.eq_2 ?_
 refine bX0 [] ?_
 exact rT0
theorem lh0 : ∀ {l : List Slo} {t : Bs}, cA0 l = some t -> ∃ ts : List Bs, ts.length = l.length /\ (∀ i (hi : i < l.length) (hi2 : i < ts.length), iv0 l[i] = some ts[i]) /\ t = (ts.map fun a => fi0 ++ [32] ++ a ++ [59, 10]).flatten
 | [], t, h => by rw [cA0.eq_def] at h; simp at h; subst h; exact ⟨[], rfl, fun i hi => by simp at hi, rfl⟩
 | x :: l, t, h => by
  rw [cA0.eq_def] at h
  dsimp only at h
  split at h
  ·rename_i a b ha hb
   injection h with h
   obtain ⟨ts, h1, h2, h3⟩ := lh0 hb
   refine ⟨a :: ts, by simp [h1], fun i hi hi2 => ?_, by simp [<- h, h3]⟩
   cases i with
   | zero => exact ha
   | succ i => exact h2 i (by simpa using hi) (by simpa using hi2)
  ·cases h
theorem np0 : ∀ {l : List Fun} {t : Bs}, gz0 l = some t -> ∃ ts : List Bs, ts.length = l.length /\ (∀ i (hi : i < l.length) (hi2 : i < ts.length), qp0 l[i] = some ts[i]) /\ t = ts.flatten
 | [], t, h => by rw [gz0.eq_def] at h; simp at h; subst h; exact ⟨[], rfl, fun i hi => by simp at hi, rfl⟩
 | x :: l, t, h => by
  rw [gz0.eq_def] at h
  dsimp only at h
  split at h
  ·rename_i a b ha hb
   injection h with h
   obtain ⟨ts, h1, h2, h3⟩ := np0 hb
   refine ⟨a :: ts, by simp [h1], fun i hi hi2 => ?_, by simp [<- h, h3]⟩
   cases i with
   | zero => exact ha
   | succ i => exact h2 i (by simpa using hi) (by simpa using hi2)
  ·cases h
theorem gX0 : ∀ {l : List Slo} {ts : List Bs}, cR0 l = some ts -> ts.length = l.length /\ (∀ i (hi : i < l.length) (hi2 : i < ts.length), iv0 l[i] = some ts[i])
 | [], ts, h => by rw [cR0.eq_def] at h; simp at h; subst h; exact ⟨rfl, fun i hi => by simp at hi⟩
 | x :: l, ts, h => by
  rw [cR0.eq_def] at h
  dsimp only at h
  split at h
  ·rename_i a b ha hb
   injection h with h
   obtain ⟨h1, h2⟩ := gX0 hb
   subst h
   refine ⟨by simp [h1], fun i hi hi2 => ?_⟩
   cases i with
   | zero => exact ha
   | succ i => exact h2 i (by simpa using hi) (by simpa using hi2)
  ·cases h
structure Prg.tells (p : Prg) : Prop where
 v : p.version < 9223372036854775808
 s : p.states.length < 2 ^ 30
 f : p.fns.length < 2 ^ 30
 ps : ∀ f ∈ p.fns, f.params.length < 2 ^ 30
 b : ∀ f ∈ p.fns, f.body.length < 2 ^ 30
 pl : ∀ f ∈ p.fns, plB f.body = true
def qo0 (t : Bs) : V := if t.length <= 16384 then .tup [vS (bS t), vI 0] else .tup [vS (bS []), vI 3]
set_option maxHeartbeats 3200000 in
theorem l90 (p : Prg) (hp : p.tells) (hj : ∀ f ∈ p.fns, ∀ ps, cR0 f.params = some ps -> J prog dw0 [.arr (.e 0) 0 ps.length, vS (bS [44, 32])] [.row 9 1 true (ps.map aQ0)] (· = .ret (vS (bS (sepB ps))) [.row 9 1 true (ps.map aQ0)]))
  {t : Bs} (h : shP p = some t) (ht : t.length < 2 ^ 39) : Ret prog kn0 [p.V] (qo0 t) := by
 unfold shP at h
 split at h
 ·rename_i hv
  split at h
  ·rename_i a b ha hb
   injection h with h
   obtain ⟨ss, hs1, hs2, hs3⟩ := lh0 ha
   obtain ⟨fs, hf1, hf2, hf3⟩ := np0 hb
   have hnum : sq0 p.version = bS (numB p.version) := rfl
   have hlen := congrArg List.length h
   simp only [List.length_append] at hlen
   have hp1 := hp.v
   refine J_dfr true pG0 (by simp) ?_
   refine rS4 @l20.eq_1 @fm0 @fl0 @Prg.V.eq_1 ?_
   refine oD0 rfl rfl (.trans (.ren (.l 2 0) 0 (by simp) (by simp) (E := [(1, .bp (.l 1 0) 0), (2, .bp (.e 0) 0), (3, .bp (.l 3 0) 0)]) (h := [(.l 1 0, .box p.cells), (.e 0, .box [vS (bS [])]), (.l 3 0, .box [vI 0])]) (cs' := [.bp (.e 0) 0, .bp (.l 3 0) 0]) (by simp [renF]) (by simp [renF, bO0]) (by simp [renF]))
    (.ren (.l 3 0) 1 (by simp) (by simp) (E := [(1, .bp (.l 1 0) 0), (2, .bp (.e 0) 0), (3, .bp (.e 1) 0)]) (h := [(.l 1 0, .box p.cells), (.e 0, .box [vS (bS [])]), (.e 1, .box [vI 0])]) (cs' := [.bp (.e 0) 0, .bp (.e 1) 0]) (by simp [renF]) (by simp [renF, bO0]) (by simp [renF]))) rfl ?_
   refine rS4 hv @Prg.ac0 @fm0 @fl0 ?_
   refine aa0 [] ?_
   simp
   have hO := an0
   try simp [ae0, ad0, aB0, aM0] at hO
   refine ab0 19 hO ?_
   refine rS0 ?_
   refine ak0 ?_; simp; refine ah0 (hR0 p.version (by omega) hp1) (by simp) ?_
   rw [hnum]
   refine rS0 ?_
   generalize hM : (ss.map fun a => fi0 ++ [32] ++ a ++ [59, 10]) = M at *
   have hMl : M.length = p.states.length := by rw [<- hM]; simp [hs1]
   have hMg : ∀ i (hi : i < p.states.length), M[i]'(by omega) = fi0 ++ [32] ++ ss[i]'(by omega) ++ [59, 10] := fun i hi => by simp [<- hM]
   have hps := hp.s
   have hpf := hp.f
   rw [<- b50, hMl] at hs3
   rw [<- b50, hf1] at hf3
   subst hs3 hf3
   have hput := put_nil [cI0 ++ [32], numB p.version, [59, 10]] (by simp; simp at hlen; omega) (by simp)
   refine aa0 [.l 15 0] ?_
   simp
   have hO := hput
   try simp [ae0, ad0, aB0, aM0] at hO
   refine ab0 25 hO ?_
   refine rS0 ?_
   generalize hB0 : cI0 ++ [32] ++ numB p.version ++ [59, 10] = B0 at *
   have hB0e : [cI0 ++ [32], numB p.version, [59, 10]].flatten = B0 := by rw [<- hB0]; simp
   refine aN0 p.states.length (fun i => [(29, vI i), (28, vI p.states.length), (27, .lst (p.states.map Slo.cells)), (4, .bp (.l 15 0) 0), (1, .bp (.l 1 0) 0), (2, .bp (.e 0) 0), (3, .bp (.e 1) 0)])
    (fun i => [(.l 15 0, .box [.self (.l 15 0) 69, .arr (.l 999 0) 0 (B0 ++ aZ0 M i).length]), (.l 999 0, .row 5 1 true ((B0 ++ aZ0 M i).map ao0)), (.l 1 0, .box p.cells), (.e 0, .box [vS (bS [])]), (.e 1, .box [vI 0])])
    (Wk.rens (.l 25 0) (.l 999 0) rfl (by simp) (by simp [renF, bj0, <- hB0]) (by simp [renF, bO0, bj0, <- hB0, Prg.ac0])) ?_
   have htl : B0.length + (aZ0 M p.states.length).length + (aZ0 fs p.fns.length).length < 2 ^ 39 := by
    have := congrArg List.length h; simp only [List.length_append] at this; omega
   clear hput
   intro i hi
   by_cases hlt : i < p.states.length
   ·have hlt' : (i : Int) < p.states.length := by omega
    have hle := h60 M (i + 1)
    rw [<- b50, hMl] at hle
    have hsucc := eE0 (L := M) (i := i) (by omega)
    rw [hMg i hlt] at hsucc
    have hle2 := hle
    rw [hsucc] at hle2
    simp only [List.length_append, List.length_cons, List.length_nil] at hle2
    refine rS1 hlt' ?_
    refine ak0 ?_; simp; refine ah0 (nq0 _ (hs2 i hlt (by omega))) (by simp) ?_
    refine rS0 ?_
    refine aa0 [.l 15 0, .l 999 0] ?_
    simp
    have hO := as0 (B0 ++ aZ0 M i) [fi0 ++ [32], ss[i]'(by omega), [59, 10]] (by simp only [List.flatten_cons, List.flatten_nil, List.append_nil, List.length_append, List.length_cons, List.length_nil]; omega) (by simp)
    try simp [ae0, ad0, aB0, aM0] at hO
    refine ab0 37 hO ?_
    refine rS0 ?_
    have hflat : B0 ++ aZ0 M i ++ [fi0 ++ [32], ss[i]'(by omega), [59, 10]].flatten = B0 ++ aZ0 M (i + 1) := by
     rw [hsucc]; simp
    have e1 := congrArg List.length hflat
    have e2 := congrArg (List.map ao0) hflat
    simp at e1 e2
    refine .of hlt (Wk.rens (.l 37 0) (.l 999 0) rfl (by simp) (by simp [renF]) (by simp [renF, bO0, e1, e2]))
   ·have hge' : ¬ (i : Int) < p.states.length := by omega
    have : i = p.states.length := by omega
    subst this
    refine rS1 hge' ?_
    generalize hB1 : B0 ++ aZ0 M p.states.length = B1 at *
    have hB1l : B1.length = B0.length + (aZ0 M p.states.length).length := by rw [<- hB1, List.length_append]
    have hB1' := congrArg (List.map ao0) hB1
    simp only [List.map_append] at hB1'
    refine aN0 p.fns.length (fun i => [(42, vI i), (41, vI p.fns.length), (40, .lst (p.fns.map Fun.cells)), (4, .bp (.l 15 0) 0), (1, .bp (.l 1 0) 0), (2, .bp (.e 0) 0), (3, .bp (.e 1) 0)])
     (fun i => [(.l 15 0, .box [.self (.l 15 0) 69, .arr (.l 999 0) 0 (B1 ++ aZ0 fs i).length]), (.l 999 0, .row 5 1 true ((B1 ++ aZ0 fs i).map ao0)), (.l 1 0, .box p.cells), (.e 0, .box [vS (bS [])]), (.e 1, .box [vI 0])])
     (Wk.subs (by simp) (by simp [bj0, Prg.ac0, hB1l, <- hB1'])) ?_
    intro i hi
    by_cases hlt : i < p.fns.length
    ·have hlt' : (i : Int) < p.fns.length := by omega
     have hle := h60 fs (i + 1)
     rw [<- b50, hf1] at hle
     have hsucc := eE0 (L := fs) (i := i) (by omega)
     have hF := hf2 i hlt (by omega)
     have hmem : p.fns[i] ∈ p.fns := List.getElem_mem _
     have hJ := hj _ hmem
     have hpb : ∀ {tt : Bs}, shB 0 p.fns[i].body = some tt -> nA0 0 p.fns[i].body tt := fun hh => o40 (n := 0) (hp.b _ hmem) hh (fun x hx tt hs => putsS (SizeOf.sizeOf x + 1) 1 x (by omega) (o10 (hp.pl _ hmem) x hx) hs)
     have hpsl := hp.ps _ hmem
     generalize hfe : p.fns[i] = f at *
     generalize hfi : fs[i]'(by omega) = fi at *
     unfold qp0 at hF
     split at hF
     ·rename_i ps bd hsl hbd
      split at hF
      ·rename_i hnt
       rw [Bool.and_eq_true] at hnt
       injection hF with hF
       cases hon : f.on with
       | true =>
        simp only [hon, if_true, kwOn] at hF
        refine rS3 hlt' hfe hon ?_
        refine aN0 f.params.length (fun j => [(51, vI j), (50, vI f.params.length), (49, .lst (f.params.map Slo.cells)), (10, .arr (.l 59 0) 0 j), (9, vS (bS [111, 110, 32])), (8, .bp (.l 8 0) 0), (42, vI i), (41, vI p.fns.length), (40, .lst (p.fns.map Fun.cells)), (4, .bp (.l 15 0) 0), (1, .bp (.l 1 0) 0), (2, .bp (.e 0) 0), (3, .bp (.e 1) 0)])
         (fun j => [(.l 59 0, .row 9 1 true ((ps.take j).map aQ0)), (.l 8 0, .box f.cells), (.l 15 0, .box [.self (.l 15 0) 69, .arr (.l 999 0) 0 (B1 ++ aZ0 fs i).length]), (.l 999 0, .row 5 1 true ((B1 ++ aZ0 fs i).map ao0)), (.l 1 0, .box p.cells), (.e 0, .box [vS (bS [])]), (.e 1, .box [vI 0])])
         (Wk.trans (Wk.subs (by simp) (by simp)) (Wk.row (s := 10) (id := .l 59 0) (ty := 9) (sz := 1) rfl)) ?_
        intro j hjl
        obtain ⟨hpl1, hpl2⟩ := gX0 hsl
        have hfil := congrArg List.length hF
        have hle2 := congrArg List.length hsucc
        simp only [List.length_append, List.length_cons, List.length_nil] at hfil hle2
        by_cases hjlt : j < f.params.length
        ·have hjlt' : (j : Int) < f.params.length := by omega
         have htk : (ps.take (j + 1)).map aQ0 = (ps.take j).map aQ0 ++ [aQ0 (ps[j]'(by omega))] := by
          rw [List.take_add_one, List.getElem?_eq_getElem (by omega : j < ps.length)]; simp
         refine rS1 hjlt' ?_
         refine ak0 ?_; simp; refine ah0 (nq0 _ (hpl2 j hjlt (by omega))) (by simp) ?_
         refine rS0 ?_
         refine .of hjlt (Wk.subs (by simp) (by simp [htk]))
        ·have hjge' : ¬ (j : Int) < f.params.length := by omega
         have : j = f.params.length := by omega
         subst this
         have htk : ps.take f.params.length = ps := by rw [<- hpl1]; exact List.take_length
         have htk' : List.take f.params.length (ps.map aQ0) = ps.map aQ0 := by rw [<- List.map_take, htk]
         refine rS2 hjge' htk' ?_
         refine ak0 ?_; simp; refine ah0 (hd0 (sB f.result) (lk0 hnt.1)) (by simp) ?_
         rw [hnt.1]
         refine rS0 ?_
         refine aa0 [] ?_
         simp
         have hO := an0
         try simp [ae0, ad0, aB0, aM0] at hO
         refine ab0 64 hO ?_
         refine rS0 ?_
         refine dd0 ?_; simp; refine ah0 ((show Ret prog eD0 [vS f.name] (vS f.name) from ha0 hnt.2)) (by simp) ?_
         refine rS0 ?_
         have hJp := hJ ps hsl
         rw [hpl1] at hJp
         refine bl0 [.l 59 0] ?_
         simp
         have hO := hJp
         try simp [ae0, ad0, aB0, aM0] at hO
         refine cE0 71 hO ?_
         refine rS0 ?_
         refine aa0 [.l 15 0, .l 999 0] ?_
         simp
         have hO := as0 (B1 ++ aZ0 fs i) [[111, 110, 32], sB f.name, [40], sepB ps, [41, 58, 32], sB f.result, [32]] (by simp only [List.flatten_cons, List.flatten_nil, List.append_nil, List.length_append, List.length_cons, List.length_nil]; omega) (by simp)
         try simp [ae0, ad0, aB0, aM0] at hO
         refine ab0 75 hO ?_
         refine rS0 ?_
         refine aa0 [.l 15 0, .l 75 0] ?_
         simp
         have hO := hpb hbd (B1 ++ aZ0 fs i ++ [[111, 110, 32], sB f.name, [40], sepB ps, [41, 58, 32], sB f.result, [32]].flatten) (by simp only [List.flatten_cons, List.flatten_nil, List.append_nil, List.length_append, List.length_cons, List.length_nil]; omega)
         try simp [ae0, ad0, aB0, aM0] at hO
         refine ab0 79 hO ?_
         refine rS0 ?_
         refine aa0 [.l 15 0, .l 79 0] ?_
         simp
         have hO := as0 (B1 ++ aZ0 fs i ++ [[111, 110, 32], sB f.name, [40], sepB ps, [41, 58, 32], sB f.result, [32]].flatten ++ bd) [[10]] (by simp only [List.flatten_cons, List.flatten_nil, List.append_nil, List.length_append, List.length_cons, List.length_nil]; omega) (by simp)
         try simp [ae0, ad0, aB0, aM0] at hO
         refine ab0 82 hO ?_
         refine rS0 ?_
         have hflat : B1 ++ aZ0 fs i ++ [[111, 110, 32], sB f.name, [40], sepB ps, [41, 58, 32], sB f.result, [32]].flatten ++ bd ++ [10] = B1 ++ aZ0 fs (i + 1) := by
          rw [hsucc, <- hF]; simp
         have e1 := congrArg List.length hflat
         have e2 := congrArg (List.map ao0) hflat
         simp at e1 e2
         refine .of hlt (Wk.rens (.l 82 0) (.l 999 0) rfl (by simp) (by simp [renF]) (by simp [renF, bO0, e1, e2]))
       | false =>
        simp only [hon, Bool.false_eq_true, if_false, kwFn] at hF
        refine rS3 hlt' hfe hon ?_
        refine aN0 f.params.length (fun j => [(51, vI j), (50, vI f.params.length), (49, .lst (f.params.map Slo.cells)), (10, .arr (.l 59 0) 0 j), (9, vS (bS [102, 110, 32])), (8, .bp (.l 8 0) 0), (42, vI i), (41, vI p.fns.length), (40, .lst (p.fns.map Fun.cells)), (4, .bp (.l 15 0) 0), (1, .bp (.l 1 0) 0), (2, .bp (.e 0) 0), (3, .bp (.e 1) 0)])
         (fun j => [(.l 59 0, .row 9 1 true ((ps.take j).map aQ0)), (.l 8 0, .box f.cells), (.l 15 0, .box [.self (.l 15 0) 69, .arr (.l 999 0) 0 (B1 ++ aZ0 fs i).length]), (.l 999 0, .row 5 1 true ((B1 ++ aZ0 fs i).map ao0)), (.l 1 0, .box p.cells), (.e 0, .box [vS (bS [])]), (.e 1, .box [vI 0])])
         (Wk.trans (Wk.subs (by simp) (by simp)) (Wk.row (s := 10) (id := .l 59 0) (ty := 9) (sz := 1) rfl)) ?_
        intro j hjl
        obtain ⟨hpl1, hpl2⟩ := gX0 hsl
        have hfil := congrArg List.length hF
        have hle2 := congrArg List.length hsucc
        simp only [List.length_append, List.length_cons, List.length_nil] at hfil hle2
        by_cases hjlt : j < f.params.length
        ·have hjlt' : (j : Int) < f.params.length := by omega
         have htk : (ps.take (j + 1)).map aQ0 = (ps.take j).map aQ0 ++ [aQ0 (ps[j]'(by omega))] := by
          rw [List.take_add_one, List.getElem?_eq_getElem (by omega : j < ps.length)]; simp
         refine rS1 hjlt' ?_
         refine ak0 ?_; simp; refine ah0 (nq0 _ (hpl2 j hjlt (by omega))) (by simp) ?_
         refine rS0 ?_
         refine .of hjlt (Wk.subs (by simp) (by simp [htk]))
        ·have hjge' : ¬ (j : Int) < f.params.length := by omega
         have : j = f.params.length := by omega
         subst this
         have htk : ps.take f.params.length = ps := by rw [<- hpl1]; exact List.take_length
         have htk' : List.take f.params.length (ps.map aQ0) = ps.map aQ0 := by rw [<- List.map_take, htk]
         refine rS2 hjge' htk' ?_
         refine ak0 ?_; simp; refine ah0 (hd0 (sB f.result) (lk0 hnt.1)) (by simp) ?_
         rw [hnt.1]
         refine rS0 ?_
         refine aa0 [] ?_
         simp
         have hO := an0
         try simp [ae0, ad0, aB0, aM0] at hO
         refine ab0 64 hO ?_
         refine rS0 ?_
         refine dd0 ?_; simp; refine ah0 ((show Ret prog eD0 [vS f.name] (vS f.name) from ha0 hnt.2)) (by simp) ?_
         refine rS0 ?_
         have hJp := hJ ps hsl
         rw [hpl1] at hJp
         refine bl0 [.l 59 0] ?_
         simp
         have hO := hJp
         try simp [ae0, ad0, aB0, aM0] at hO
         refine cE0 71 hO ?_
         refine rS0 ?_
         refine aa0 [.l 15 0, .l 999 0] ?_
         simp
         have hO := as0 (B1 ++ aZ0 fs i) [[102, 110, 32], sB f.name, [40], sepB ps, [41, 58, 32], sB f.result, [32]] (by simp only [List.flatten_cons, List.flatten_nil, List.append_nil, List.length_append, List.length_cons, List.length_nil]; omega) (by simp)
         try simp [ae0, ad0, aB0, aM0] at hO
         refine ab0 75 hO ?_
         refine rS0 ?_
         refine aa0 [.l 15 0, .l 75 0] ?_
         simp
         have hO := hpb hbd (B1 ++ aZ0 fs i ++ [[102, 110, 32], sB f.name, [40], sepB ps, [41, 58, 32], sB f.result, [32]].flatten) (by simp only [List.flatten_cons, List.flatten_nil, List.append_nil, List.length_append, List.length_cons, List.length_nil]; omega)
         try simp [ae0, ad0, aB0, aM0] at hO
         refine ab0 79 hO ?_
         refine rS0 ?_
         refine aa0 [.l 15 0, .l 79 0] ?_
         simp
         have hO := as0 (B1 ++ aZ0 fs i ++ [[102, 110, 32], sB f.name, [40], sepB ps, [41, 58, 32], sB f.result, [32]].flatten ++ bd) [[10]] (by simp only [List.flatten_cons, List.flatten_nil, List.append_nil, List.length_append, List.length_cons, List.length_nil]; omega) (by simp)
         try simp [ae0, ad0, aB0, aM0] at hO
         refine ab0 82 hO ?_
         refine rS0 ?_
         have hflat : B1 ++ aZ0 fs i ++ [[102, 110, 32], sB f.name, [40], sepB ps, [41, 58, 32], sB f.result, [32]].flatten ++ bd ++ [10] = B1 ++ aZ0 fs (i + 1) := by
          rw [hsucc, <- hF]; simp
         have e1 := congrArg List.length hflat
         have e2 := congrArg (List.map ao0) hflat
         simp at e1 e2
         refine .of hlt (Wk.rens (.l 82 0) (.l 999 0) rfl (by simp) (by simp [renF]) (by simp [renF, bO0, e1, e2]))
      ·cases hF
     ·cases hF
    ·have hge' : ¬ (i : Int) < p.fns.length := by omega
     have : i = p.fns.length := by omega
     subst this
     refine rS1 hge' ?_
     rw [<- h] at ht ⊢
     refine aa0 [.l 15 0, .l 999 0] ?_
     simp
     have hO := il0 69 (B1 ++ aZ0 fs p.fns.length)
     try simp [ae0, ad0, aB0, aM0] at hO
     refine ab0 87 hO ?_
     have hne : B1 ++ aZ0 fs p.fns.length ≠ [] := by rw [<- hB1, <- hB0]; simp [cI0]
     by_cases hbig : (B1 ++ aZ0 fs p.fns.length).length <= 16384
     ·have hb2 : ¬ (16384 : Int) < ((B1 ++ aZ0 fs p.fns.length).length : Nat) := by omega
      have hbig' := hbig
      simp only [List.length_append] at hbig'
      rw [List.length_append] at hb2
      refine rS1 hb2 ?_
      refine aa0 [.l 15 0, .l 999 0] ?_
      simp
      have hO := fQ0 69 (B1 ++ aZ0 fs p.fns.length) hne
      try simp [ae0, ad0, aB0, aM0] at hO
      refine ab0 92 hO ?_
      refine rS0 ?_
      refine mo0 _ _ (Wk.refl _ _) (d00 [.e 0, .e 1] (by simp) ?_)
      simp
      refine lW0 (iw0 (B1 ++ aZ0 fs p.fns.length) 0) (by simp) ?_
      simp
      refine ax0 [] ?_
      exact rT2 @qo0.eq_1 hbig'
     ·have hb2 : (16384 : Int) < ((B1 ++ aZ0 fs p.fns.length).length : Nat) := by omega
      have hbig' := hbig
      simp only [List.length_append] at hbig'
      rw [List.length_append] at hb2
      refine rS1 hb2 ?_
      refine mo0 _ _ (Wk.refl _ _) (d00 [.e 0, .e 1] (by simp) ?_)
      simp
      refine lW0 (iw0 [] 3) (by simp) ?_
      simp
      refine ax0 [] ?_
      exact rT2 @qo0.eq_1 hbig'
  ·cases h
 ·cases h
theorem pq0 (s : Bs) : J prog dw0 [.arr (.e 0) 0 0, vS (bS s)] [.row 9 1 true []] (· = .ret (vS (bS [])) [.row 9 1 true []]) := by
 refine at0 mW0 (by simp) ?_
 refine rS3 @iJ0.eq_1 @hpE.eq_1 @hpE.eq_2 ?_
 refine ax0 [] ?_
 exact rT0
def kJ0 : Bs := [118, 101, 114, 115, 105, 111, 110, 32, 49, 59, 102, 110, 32, 102, 40, 41, 58, 105, 110, 116, 123, 114, 101, 116, 32, 40, 40, 49, 43, 50, 41, 42, 51, 41, 45, 40, 45, 52, 41, 59, 125]
def pl0 : Bs := [118, 101, 114, 115, 105, 111, 110, 32, 49, 59, 10, 102, 110, 32, 102, 40, 41, 58, 32, 105, 110, 116, 32, 123, 10, 9, 114, 101, 116, 32, 40, 49, 32, 43, 32, 50, 41, 32, 42, 32, 51, 32, 45, 32, 45, 52, 59, 10, 125, 10]
def tellsB (p : Prg) : Bool := decide (p.version < 9223372036854775808 /\ p.states.length < 2 ^ 30 /\ p.fns.length < 2 ^ 30) && p.fns.all fun f => decide (f.params.length = 0 /\ f.body.length < 2 ^ 30) && plB f.body
def wakeB : Bool := match iZ0 kJ0 100 with
 | .ok p => tellsB p && shP p == some pl0
 | .bad _ _ => false
theorem sS0 : wakeB = true := by kernel_rfl
theorem wake_prg : ∃ p, iZ0 kJ0 100 = .ok p /\ p.tells /\ shP p = some pl0 /\ ∀ f ∈ p.fns, f.params = [] := by
 have h := sS0
 unfold wakeB at h
 split at h
 ·rename_i p hp
  refine ⟨p, hp, ?_⟩
  unfold tellsB at h
  simp only [Bool.and_eq_true, decide_eq_true_eq, List.all_eq_true, beq_iff_eq] at h
  obtain ⟨⟨⟨a, b, c⟩, d⟩, e⟩ := h
  refine ⟨⟨a, b, c, fun f hf => ?_, fun f hf => (d f hf).1.2, fun f hf => (d f hf).2⟩, e, fun f hf => List.length_eq_zero_iff.1 (d f hf).1.1⟩
  have := (d f hf).1.1
  omega
 ·cases h
theorem sT0 : Ret prog gN0 [] (vB true) := by
 obtain ⟨p, hp, ht, hs, hf⟩ := wake_prg
 have hP := iu0 (bS kJ0) (by decide) 100 (by rw [show sB (bS kJ0) = kJ0 from rfl, hp]; simp [LxR.live])
 rw [show sB (bS kJ0) = kJ0 from rfl, hp] at hP
 have hS := l90 p ht (fun f hff ps hps => by
  rw [hf f hff] at hps
  rw [cR0.eq_def] at hps
  simp at hps
  subst hps
  exact pq0 _) hs (by decide)
 refine cm0 kr0 (by simp) ?_
 refine rS1 @fX0.eq_1 ?_
 refine ak0 ?_; simp; refine ah0 hP (by simp [i00, V.pure, V.bt0]) ?_
 refine rS2 @i00.eq_1 @i00.eq_2 ?_
 refine ak0 ?_; simp; refine ah0 hS (by simp [qo0, pl0, V.pure, V.bt0]) ?_
 exact rT2 @qo0.eq_1 @pl0.eq_1
end Go.Am
end

section
namespace Go.Am
set_option maxRecDepth 100000
theorem qn0 (ts : List Bs) : Lib.join ts [44, 32] = sepB ts := by
 cases ts with
 | nil => rfl
 | cons x r =>
  rw [Lib.join_cons]
  unfold sepB Lib.joinTail
  rw [List.mapIdx_cons, List.flatten_cons, if_pos rfl, List.nil_append]
  congr 1
  have : ∀ (r : List Bs) (k : Nat), ((r.mapIdx fun i t => (if i + (k + 1) = 0 then ([] : Bs) else [44, 32]) ++ t).flatten) = (r.map ([44, 32] ++ ·)).flatten := by
   intro r
   induction r with
   | nil => intro k; rfl
   | cons y r ih =>
    intro k
    rw [List.mapIdx_cons, List.map_cons, List.flatten_cons, List.flatten_cons, if_neg (by omega)]
    congr 1
    have := ih (k + 1)
    simpa [Nat.add_assoc, Nat.add_comm, Nat.add_left_comm] using this
  exact (this r 0).symm
theorem Join_row (ts : List Bs) (h0 : ts ≠ []) (hn : ts.length < 2 ^ 30) (hl : (sepB ts).length < 2 ^ 40) :
  J prog dw0 [.arr (.e 0) 0 ts.length, vS (bS [44, 32])] [.row 9 1 true (ts.map aQ0)] (· = .ret (vS (bS (sepB ts))) [.row 9 1 true (ts.map aQ0)]) := by
 obtain ⟨c, hc⟩ : ∃ c, Go.Proofs.Tryz.f26.body = some c := ⟨_, rfl⟩
 refine qB0 Go.Proofs.Tryz.func26 (by kernel_rfl) hc ?_
 intro H μ us w hv hW
 have r0 := hv.2 0 _ rfl
 have r1 := hv.2 1 _ rfl
 rw [mw0 hv]
 generalize us.getD 0 undef = p at r0
 generalize us.getD 1 undef = q at r1
 cases r1
 have hlen : 0 < ts.length := List.length_pos_iff.2 h0
 cases r0 with
 | arr _ _ _ a cap hc ha =>
 obtain ⟨bg, g1, g2, g3⟩ := ha.resolve_left (by omega)
 subst g2
 have hl0 : (hpE 0 [.row 9 1 true (ts.map aQ0)]).lookup (.e 0) = some (.row 9 1 true (ts.map aQ0)) := rfl
 rcases hW.ob _ _ hl0 with ⟨z, _⟩ | ⟨bg', cur, m1, ⟨m2, m3, m4⟩, m5, m6, m7, m8, m9, m10, m11⟩
 ·exact absurd (by simpa using z) h0
 rw [g1] at m1; injection m1 with m1; subst m1
 have hj := Go.Proofs.Any.strings_Join Go.Proofs.Tryz.lays156 Go.Proofs.Tryz.bx156 bg.b 0 cap (ts.map bS) (bS [44, 32]) w (fun j x hx => by
   rw [List.getElem?_map, Option.map_eq_some_iff] at hx
   obtain ⟨t, ht, rfl⟩ := hx
   obtain ⟨y, y1, y2⟩ := m11 j (aQ0 t) (by rw [List.getElem?_map, ht]; rfl) 0 _ rfl
   cases y2
   simpa [World.cell?, m5] using y1) (Array.getElem?_eq_some_iff.1 m5).1 (by simp; omega) (by simpa using hc) (by
   rw [List.map_map, show (ts.map ((fun x : ByteArray => x.data.toList) ∘ bS)) = ts from List.map_id ts, show (bS [44, 32]).data.toList = [44, 32] from rfl, qn0]; omega)
 rw [List.map_map, show (ts.map ((fun x : ByteArray => x.data.toList) ∘ bS)) = ts from List.map_id ts, show (bS [44, 32]).data.toList = [44, 32] from rfl, qn0, List.length_map] at hj
 have hs : (⟨(sepB ts).toArray⟩ : ByteArray) = bS (sepB ts) := rfl
 rw [hs] at hj
 generalize bS (sepB ts) = z at *
 have hfin : Calls prog 26 #[.slice (some ⟨bg.b, 0, none⟩) ts.length cap, .string (bS [44, 32])] w fun e w' => e = .returned (.string z) /\ Go.RowKit.Below w.heap.size w w' := hj
 clear hj
 rw [Nat.zero_mul]
 refine Calls.mono hfin ?_
 rintro e w' ⟨he, hB⟩
 exact ⟨⟨.string z, he, .c (.string z)⟩, hB⟩
theorem Join_own (ts : List Bs) (hn : ts.length < 2 ^ 30) (hl : (sepB ts).length < 2 ^ 40) :
  J prog dw0 [.arr (.e 0) 0 ts.length, vS (bS [44, 32])] [.row 9 1 true (ts.map aQ0)] (· = .ret (vS (bS (sepB ts))) [.row 9 1 true (ts.map aQ0)]) := by
 cases ts with
 | nil => exact pq0 _
 | cons x r => exact Join_row (x :: r) (by simp) hn hl
end Go.Am
end

section
namespace Go.Am
set_option maxRecDepth 100000
variable {ts : List Tok}
theorem ai0 {α β : Type} {r : LxR α} {g : α -> LxR β} (h : r.live) (h2 : ∀ a, r = .ok a -> (g a).live) : (r.bind g).live := by
 cases r with
 | ok a => exact h2 a rfl
 | bad a e => exact h
theorem dz0 {α : Type} (n : Nat) {e : Int} (h : e ≠ -1) : (e50 ts n e : LxR α).live := h
theorem aH0 (n : Nat) (t : Bs) : (bi0 ts n t).live := by unfold bi0; split; exact trivial; exact dz0 _ (by decide)
theorem od0 (n : Nat) (t : Bs) : (nf0 ts n t).live := by unfold nf0; split; exact trivial; exact dz0 _ (by decide)
theorem eL0 (n : Nat) : (dA0 ts n).live := by unfold dA0; split; exact trivial; exact dz0 _ (by decide)
theorem pInt_live (n : Nat) : (pInt ts n).live := by unfold pInt; split; exact trivial; exact dz0 _ (by decide)
theorem p80 (n : Nat) : (pKey ts n).live := by unfold pKey; split; exact trivial; split; exact trivial; exact dz0 _ (by decide)
theorem jw0 (n d : Nat) : (kw0 ts n d).live := by unfold kw0; split; exact dz0 _ (by decide); exact trivial
theorem jx0 : ∀ (r n : Nat), (fL0 ts r n).live
 | 0, n => dz0 _ (by decide)
 | r + 1, n => by
  rw [fL0]
  split
  ·exact trivial
  split
  ·exact ai0 (jx0 r _) fun _ _ => ai0 (aH0 _ _) fun _ _ => trivial
  split
  ·exact ai0 (p80 _) fun _ _ => ai0 (aH0 _ _) fun _ _ => ai0 (jx0 r _) fun _ _ => ai0 (aH0 _ _) fun _ _ => trivial
  ·exact p80 _
theorem oc0 (n : Nat) : (ky0 ts n).live := ai0 (eL0 _) fun _ _ => ai0 (aH0 _ _) fun _ _ => ai0 (jx0 _ _) fun _ _ => trivial
structure LiveX (ts : List Tok) (f : Nat) : Prop where
 ex : ∀ {d n : Nat}, n < ts.length -> 16 * (ts.length - n) + 10 <= f -> (b10 ts f d n).live
 bin : ∀ {l d n : Nat}, n < ts.length -> l <= 5 -> 16 * (ts.length - n) + 9 <= f + l -> (pBin ts f l d n).live
 loop : ∀ {l d : Nat} {out : Exq} {n : Nat}, n < ts.length -> l <= 4 -> 16 * (ts.length - n) + 1 <= f -> (lC0 ts f l d out n).live
 un : ∀ {d n : Nat}, n < ts.length -> 16 * (ts.length - n) + 3 <= f -> (pUn ts f d n).live
 post : ∀ {d : Nat} {out : Exq} {n : Nat}, n < ts.length -> 16 * (ts.length - n) + 1 <= f -> (lD0 ts f d out n).live
 prim : ∀ {d n : Nat}, n < ts.length -> 16 * (ts.length - n) + 2 <= f -> (jX0 ts f d n).live
 args : ∀ {d : Nat} {out : List Exq} {n : Nat}, n < ts.length -> 16 * (ts.length - n) + 11 <= f -> (iW0 ts f d out n).live
theorem liveX (hE : TEnd ts) : ∀ f, LiveX ts f
 | 0 => ⟨fun _ h => by omega, fun _ _ h => by omega, fun _ _ h => by omega, fun _ h => by omega, fun _ h => by omega, fun _ h => by omega, fun _ h => by omega⟩
 | f + 1 => by
  have ih := liveX hE f
  have ig := ks0 hE f
  refine ⟨fun hn h => ?_, fun hn hl h => ?_, fun hn hl h => ?_, fun hn h => ?_, fun hn h => ?_, fun hn h => ?_, fun hn h => ?_⟩
  ·rw [b10]
   exact ai0 (jw0 _ _) fun _ _ => ih.bin hn (by omega) (by omega)
  ·rw [pBin]
   split
   ·exact ih.un hn (by omega)
   ·refine ai0 (ih.bin hn (by omega) (by omega)) fun ⟨b, m⟩ e => ?_
    have q := ig.bin hn e
    exact ih.loop q.2 (by omega) (by dsimp only; omega)
  ·rw [lC0]
   split
   ·rename_i hi
    have h0 := hE _ hn (by rw [iR0 hi]; decide)
    refine ai0 (ih.bin h0 (by omega) (by omega)) fun ⟨b, m⟩ e => ?_
    have q := ig.bin h0 e
    dsimp only
    split
    ·split
     ·exact dz0 _ (by decide)
     ·exact trivial
    ·exact ih.loop q.2 (by omega) (by omega)
   ·exact trivial
  ·rw [pUn]
   split
   ·rename_i hi
    have h0 := aw0 hE hn hi (by decide)
    exact ai0 (jw0 _ _) fun _ _ => ai0 (ih.un h0 (by omega)) fun _ _ => trivial
   split
   ·rename_i hi
    have h0 := aw0 hE hn hi (by decide)
    exact ai0 (jw0 _ _) fun _ _ => ai0 (ih.un h0 (by omega)) fun _ _ => trivial
   ·refine ai0 (ih.prim hn (by omega)) fun ⟨b, m⟩ e => ?_
    have q := ig.prim hn e
    exact ih.post q.2 (by dsimp only; omega)
  ·rw [lD0]
   split
   ·rename_i hi
    have h0 := aw0 hE hn hi (by decide)
    refine ai0 (ih.ex h0 (by omega)) fun ⟨b, m⟩ e => ai0 (aH0 _ _) fun m' e' => ?_
    have q := ig.ex h0 e
    have q' := al0 hE q.2 e'
    exact ih.post q'.2 (by dsimp only at *; omega)
   ·exact trivial
  ·rw [jX0]
   split; · exact trivial
   split; · exact trivial
   split; · exact trivial
   split; · exact trivial
   split
   ·rename_i hi
    have h0 := aw0 hE hn hi (by decide)
    exact ai0 (ih.ex h0 (by omega)) fun ⟨b, m⟩ e => ai0 (aH0 _ _) fun m' e' => trivial
   ·refine ai0 (eL0 _) fun ⟨b, m⟩ e => ?_
    split
    ·rename_i hi
     split
     ·exact trivial
     ·have q := a10 hE hn e
      have e1 := e
      unfold dA0 at e1
      split at e1
      ·injection e1 with e1; injection e1 with e2 e3; subst e3
       have h0 := aw0 hE q.2 hi (by decide)
       exact ai0 (ih.args h0 (by omega)) fun _ _ => trivial
      ·cases e1
    ·exact trivial
  ·rw [iW0]
   refine ai0 (ih.ex hn (by omega)) fun ⟨b, m⟩ e => ?_
   have q := ig.ex hn e
   dsimp only
   split
   ·exact trivial
   ·refine ai0 (aH0 _ _) fun m' e' => ?_
    have q' := al0 hE q.2 e'
    exact ih.args q'.2 (by omega)
structure LiveS (ts : List Tok) (f : Nat) : Prop where
 block : ∀ {d n : Nat}, n < ts.length -> 16 * (ts.length - n) + 1 <= f -> (ca0 ts f d n).live
 stms : ∀ {d : Nat} {out : List Stm} {n : Nat}, n < ts.length -> 16 * (ts.length - n) + 2 <= f -> (lF0 ts f d out n).live
 stm : ∀ {d n : Nat}, n < ts.length -> 16 * (ts.length - n) + 1 <= f -> (pStm ts f d n).live
theorem liveS (hE : TEnd ts) : ∀ f, LiveS ts f
 | 0 => ⟨fun _ h => by omega, fun _ h => by omega, fun _ h => by omega⟩
 | f + 1 => by
  have ih := liveS hE f
  have ix := liveX hE f
  have ig := ks0 hE f
  have is := mY0 hE f
  refine ⟨fun hn h => ?_, fun hn h => ?_, fun hn h => ?_⟩
  ·rw [ca0]
   refine ai0 (jw0 _ _) fun _ _ => ai0 (aH0 _ _) fun m e => ?_
   have q := al0 hE hn e
   exact ih.stms q.2 (by omega)
  ·rw [lF0]
   split
   ·exact trivial
   ·refine ai0 (ih.stm hn (by omega)) fun ⟨s, m⟩ e => ?_
    have q := is.stm hn e
    exact ih.stms q.2 (by dsimp only; omega)
  ·rw [pStm]
   split
   ·rename_i hi
    have h0 := aw0 hE hn hi (by decide)
    refine ai0 (eL0 _) fun ⟨t, n1⟩ e1 => ai0 (aH0 _ _) fun n2 e2 => ?_
    have q1 := a10 hE h0 e1
    have q2 := al0 hE q1.2 e2
    exact ai0 (ix.ex q2.2 (by dsimp only at *; omega)) fun _ _ => ai0 (aH0 _ _) fun _ _ => trivial
   split
   ·rename_i hi
    have h0 := aw0 hE hn hi (by decide)
    refine ai0 (eL0 _) fun ⟨t, n1⟩ e1 => ?_
    have q1 := a10 hE h0 e1
    split
    ·rename_i hi2
     have h00 := aw0 hE q1.2 hi2 (by decide)
     refine ai0 (ix.ex h00 (by dsimp only at *; omega)) fun ⟨x, n3⟩ e3 => ai0 (aH0 _ _) fun n4 e4 => ai0 (aH0 _ _) fun n5 e5 => ?_
     have q3 := ig.ex h00 e3
     have q4 := al0 hE q3.2 e4
     have q5 := al0 hE q4.2 e5
     exact ai0 (ix.ex q5.2 (by dsimp only at *; omega)) fun _ _ => ai0 (aH0 _ _) fun _ _ => trivial
    ·refine ai0 (aH0 _ _) fun n2 e2 => ?_
     have q2 := al0 hE q1.2 e2
     exact ai0 (ix.ex q2.2 (by dsimp only at *; omega)) fun _ _ => ai0 (aH0 _ _) fun _ _ => trivial
   split
   ·rename_i hi
    have h0 := aw0 hE hn hi (by decide)
    refine ai0 (eL0 _) fun ⟨t, n1⟩ e1 => ai0 (aH0 _ _) fun n2 e2 => ?_
    have q1 := a10 hE h0 e1
    have q2 := al0 hE q1.2 e2
    exact ai0 (ix.ex q2.2 (by dsimp only at *; omega)) fun _ _ => ai0 (aH0 _ _) fun _ _ => ai0 (aH0 _ _) fun _ _ => trivial
   split
   ·rename_i hi
    have h0 := aw0 hE hn hi (by decide)
    refine ai0 (ix.ex h0 (by omega)) fun ⟨x, n1⟩ e1 => ?_
    have q1 := ig.ex h0 e1
    refine ai0 (ih.block q1.2 (by dsimp only at *; omega)) fun ⟨b, n2⟩ e2 => ?_
    have q2 := is.block q1.2 e2
    split
    ·rename_i hi2
     have h00 := aw0 hE q2.2 hi2 (by decide)
     exact ai0 (ih.block h00 (by dsimp only at *; omega)) fun _ _ => trivial
    ·exact trivial
   split
   ·rename_i hi
    have h0 := aw0 hE hn hi (by decide)
    refine ai0 (eL0 _) fun ⟨t, n1⟩ e1 => ai0 (od0 _ _) fun n2 e2 => ?_
    have q1 := a10 hE h0 e1
    have q2 := k80 hE q1.2 e2
    refine ai0 (ix.ex q2.2 (by dsimp only at *; omega)) fun ⟨x, n3⟩ e3 => ?_
    have q3 := ig.ex q2.2 e3
    exact ai0 (ih.block q3.2 (by dsimp only at *; omega)) fun _ _ => trivial
   split
   ·rename_i hi
    have h0 := aw0 hE hn hi (by decide)
    exact ai0 (ix.ex h0 (by omega)) fun _ _ => ai0 (aH0 _ _) fun _ _ => trivial
   ·exact dz0 _ (by decide)
end Go.Am
end

section
namespace Go.Am
set_option maxRecDepth 100000
variable {ts : List Tok}
theorem l70 (hE : TEnd ts) : ∀ {f : Nat} {out : List Slo} {n : Nat}, n < ts.length -> 16 * (ts.length - n) + 1 <= f -> (c80 ts f out n).live
 | 0, out, n, hn, h => by omega
 | f + 1, out, n, hn, h => by
  rw [c80]
  refine ai0 (oc0 _) fun ⟨s, n1⟩ e1 => ?_
  have q1 := ig0 hE hn e1
  dsimp only at *
  split
  ·exact trivial
  ·refine ai0 (aH0 _ _) fun n2 e2 => ?_
   have q2 := al0 hE q1.2 e2
   exact l70 hE q2.2 (by omega)
theorem p70 (hE : TEnd ts) {n : Nat} (hn : n < ts.length) {f : Nat} (on : Bool) (h : 16 * (ts.length - n) + 2 <= f) : (pFun ts f on n).live := by
 unfold pFun
 refine ai0 (eL0 _) fun ⟨t, n1⟩ e1 => ai0 (aH0 _ _) fun n2 e2 => ?_
 have q1 := a10 hE hn e1
 have q2 := al0 hE q1.2 e2
 dsimp only at *
 refine ai0 ?_ fun ⟨ps, n3⟩ e3 => ai0 (aH0 _ _) fun n4 e4 => ai0 (jx0 _ _) fun ⟨k, n5⟩ e5 => ?_
 ·split
  ·exact trivial
  ·exact l70 hE q2.2 (by omega)
 ·have q3 : n2 < n3 /\ n3 < ts.length := by
   split at e3
   ·rename_i hi
    have h0 := aw0 hE q2.2 hi (by decide)
    injection e3 with e3; injection e3 with h1 h2; subst h2; omega
   ·exact fO0 hE q2.2 e3
  have q4 := al0 hE q3.2 e4
  have q5 := eP0 hE q4.2 e5
  exact ai0 ((liveS hE f).block q5.2.1 (by dsimp only at *; omega)) fun _ _ => trivial
theorem jy0 (hE : TEnd ts) : ∀ {f : Nat} {p : Prg} {n : Nat}, n < ts.length -> 16 * (ts.length - n) + 3 <= f -> (mg0 ts f p n).live
 | 0, p, n, hn, h => by omega
 | f + 1, p, n, hn, h => by
  rw [mg0]
  split
  ·exact trivial
  split
  ·rename_i hi
   have h0 := aw0 hE hn hi (by decide)
   refine ai0 (oc0 _) fun ⟨s, n1⟩ e1 => ai0 (aH0 _ _) fun n2 e2 => ?_
   have q1 := ig0 hE h0 e1
   have q2 := al0 hE q1.2 e2
   exact jy0 hE q2.2 (by dsimp only at *; omega)
  split
  ·rename_i hi
   have h0 := aw0 hE hn hi (by decide)
   refine ai0 (p70 hE h0 _ (by omega)) fun ⟨s, n1⟩ e1 => ?_
   have q1 := kx0 hE h0 e1
   exact jy0 hE q1.2 (by dsimp only at *; omega)
  split
  ·rename_i hi
   have h0 := aw0 hE hn hi (by decide)
   refine ai0 (p70 hE h0 _ (by omega)) fun ⟨s, n1⟩ e1 => ?_
   have q1 := kx0 hE h0 e1
   exact jy0 hE q1.2 (by dsimp only at *; omega)
  ·exact dz0 _ (by decide)
theorem sx0 (hE : TEnd ts) (hn : 0 < ts.length) {f : Nat} (h : 16 * ts.length + 3 <= f) : (lE0 ts f).live := by
 unfold lE0
 refine ai0 (od0 _ _) fun n e => ai0 (pInt_live _) fun ⟨v, n1⟩ e1 => ai0 (aH0 _ _) fun n2 e2 => ?_
 have q := k80 hE hn e
 have q1 := qX0 hE q.2 e1
 have q2 := al0 hE q1.2 e2
 exact jy0 hE q2.2 (by dsimp only at *; omega)
@[irreducible] def oM0 : Nat := 70000
theorem fuelP_eq : oM0 = 70000 := by unfold oM0; rfl
theorem qZ0 (s : Bs) : (iZ0 s oM0).live := by
 have hg := ku0 s
 unfold iZ0
 cases hx : hM0 s with
 | bad a e => rw [hx] at hg; exact hg.2
 | ok ts =>
  rw [hx] at hg
  obtain ⟨o, b, rfl, ho⟩ := hg
  have hl := sx0 (ts := o ++ [⟨5, bS [], 0, b⟩]) nW0.tend (by simp) (f := oM0) (by rw [fuelP_eq, List.length_append]; simp only [List.length_cons, List.length_nil]; omega)
  dsimp only
  cases hp : lE0 (o ++ [⟨5, bS [], 0, b⟩]) oM0 with
  | bad n e => rw [hp] at hl; exact hl
  | ok q => exact trivial
@[irreducible] def o50 (s : Bs) : LxR Prg := iZ0 s oM0
theorem rG0 (s : Bs) : o50 s = iZ0 s oM0 := by unfold o50; rfl
theorem r10 (s : ByteArray) (hs : s.size < 2 ^ 39) : Ret prog h30 [vS s] (i00 (o50 (sB s))) := by
 have h := iu0 s hs oM0 (qZ0 _)
 rw [<- rG0] at h
 exact h
end Go.Am
end

section
namespace Go.Am
set_option maxRecDepth 100000
structure mD0 (t : Tok) : Prop where
 name : t.kind = 1 -> e70 t.text = false -> c70 (sB t.text) = true
 num : t.kind = 2 -> 0 <= t.num /\ t.num < 9223372036854775808
 text : t.kind = 3 -> hP0 (sB t.text) = true
theorem rB0 : ∀ {l : Bs} {n m : Int}, l.all am0.contains = true -> 0 <= n -> n < 9223372036854775808 -> numV l n = some m -> 0 <= m /\ m < 9223372036854775808
 | [], n, m, _, h0, h1, h => by simp [numV] at h; omega
 | c :: l, n, m, hd, h0, h1, h => by
  rw [numV] at h
  simp only [List.all_cons, Bool.and_eq_true] at hd
  have hc : ∀ c ∈ am0, 48 <= c.toNat /\ c.toNat <= 57 := by decide
  have hc' := hc c (by simpa using hd.1)
  split at h
  ·cases h
  ·rename_i hn
   have h10 := Int.tdiv_eq_ediv_of_nonneg (a := 9223372036854775807 - ((c.toNat : Int) - 48)) (b := 10) (by omega)
   rw [h10] at hn
   exact rB0 hd.2 (by omega) (by omega) h
theorem kE0 {i0 : Nat} : ∀ {l : Bs} {j : Nat} {acc t : Bs} {m : Nat}, (acc.all fun c => decide (32 <= c /\ c <= 126)) = true -> ij0 i0 l j acc = .ok (t, m) -> hP0 t = true
 | [], j, acc, t, m, _, h => by simp [ij0] at h
 | c :: l, j, acc, t, m, ha, h => by
  rw [ij0.eq_def] at h
  simp only at h
  split at h
  ·split at h
   ·cases h
   ·injection h with h; injection h with h1 h2; subst h1
    unfold hP0
    rw [ha]; simp; omega
  split at h
  ·cases h
  rename_i hc
  split at h
  ·split at h
   ·cases h
   ·split at h
    ·rename_i hd
     refine kE0 ?_ h
     rw [List.all_append, ha]
     rcases hd with rfl | rfl <;> decide
    ·cases h
  ·refine kE0 ?_ h
   rw [List.all_append, ha]
   simp only [List.all_cons, List.all_nil, Bool.and_true, Bool.true_and, decide_eq_true_eq]
   simp only [not_or, UInt8.not_lt] at hc
   exact ⟨hc.1, hc.2⟩
theorem rQ0 (set s : Bs) (i : Nat) : (s.drop i).take (bg0 set s i - i) = (s.drop i).takeWhile fun c => set.contains c := by
 unfold bg0
 rw [Nat.add_sub_cancel_left]
 exact (List.prefix_iff_eq_take.1 (List.takeWhile_prefix _)).symm
theorem lxOne_ok {s : Bs} {i : Nat} {k : Int} {t : Bs} {n : Int} {j : Nat} (h : ly0 s i = .ok (k, t, n, j)) (a : Int) : mD0 ⟨k, bS t, n, a⟩ := by
 unfold ly0 at h
 split at h
 ·cases h
 rename_i c hc
 obtain ⟨hi, hci⟩ := List.getElem?_eq_some_iff.1 hc
 have hdr : s.drop i = c :: s.drop (i + 1) := by rw [List.drop_eq_getElem_cons hi, hci]
 split at h
 ·rename_i hl
  split at h
  ·cases h
  ·rename_i hn
   injection h with h; injection h with h1 h; injection h with h2 h; injection h with h3 h4
   subst h1 h2 h3
   refine ⟨fun _ hr => ?_, (by intro h; simp at h), (by intro h; simp at h)⟩
   rw [rQ0] at *
   have hdis : ∀ c ∈ av0, am0.contains c = false := by decide
   have hlc : (av0 ++ am0).contains c = true := by simp at hl ⊢; exact .inl hl
   have hlen : ((s.drop i).takeWhile fun c => (av0 ++ am0).contains c).length <= 16 := by
    unfold bg0 at hn; omega
   have hr' : qQ0.contains ((s.drop i).takeWhile fun c => (av0 ++ am0).contains c) = false := hr
   have hall : ((s.drop i).takeWhile fun c => (av0 ++ am0).contains c).all (fun c => (av0 ++ am0).contains c) = true := by
    exact List.all_takeWhile
   show c70 ((s.drop i).takeWhile fun c => (av0 ++ am0).contains c) = true
   unfold c70
   rw [hr', hall]
   have hhd : ((s.drop i).takeWhile fun c => (av0 ++ am0).contains c) = c :: (s.drop (i + 1)).takeWhile fun c => (av0 ++ am0).contains c := by
    rw [hdr, List.takeWhile_cons, if_pos hlc]
   rw [hhd] at hlen ⊢
   have := hdis c (by simpa using hl)
   simp only [List.headD_cons, this]
   simp at hlen ⊢
   omega
 split at h
 ·split at h
  ·cases h
  ·split at h
   ·cases h
   ·rename_i m hm
    injection h with h; injection h with h1 h; injection h with h2 h; injection h with h3 h4
    subst h1 h2 h3
    refine ⟨(by intro h; simp at h), fun _ => ?_, (by intro h; simp at h)⟩
    rw [rQ0] at hm
    exact rB0 List.all_takeWhile (by omega) (by omega) hm
 split at h
 ·split at h
  ·cases h
  ·rename_i t' j' ht
   injection h with h; injection h with h1 h; injection h with h2 h; injection h with h3 h4
   subst h1 h2 h3
   exact ⟨(by intro h; simp at h), (by intro h; simp at h), fun _ => kE0 rfl ht⟩
 split at h
 ·injection h with h; injection h with h1 h; subst h1
  exact ⟨(by intro h; simp at h), (by intro h; simp at h), (by intro h; simp at h)⟩
 split at h
 ·injection h with h; injection h with h1 h; subst h1
  exact ⟨(by intro h; simp at h), (by intro h; simp at h), (by intro h; simp at h)⟩
 ·cases h
theorem oa0 {s : Bs} : ∀ {f i : Nat} {out ts : List Tok}, (∀ t ∈ out, mD0 t) -> jW0 s f i out = .ok ts -> ∀ t ∈ ts, mD0 t
 | 0, i, out, ts, _, h => by simp [jW0] at h
 | f + 1, i, out, ts, ho, h => by
  rw [jW0] at h
  split at h
  ·split at h
   ·cases h
   ·injection h with h; subst h
    intro t ht
    rcases List.mem_append.1 ht with ht | ht
    ·exact ho t ht
    ·obtain rfl := List.mem_singleton.1 ht
     exact ⟨(by intro h; simp at h), (by intro h; simp at h), (by intro h; simp at h)⟩
  ·split at h
   ·cases h
   ·rename_i k t n j h1
    split at h
    ·cases h
    ·refine oa0 (fun t ht => ?_) h
     rcases List.mem_append.1 ht with ht | ht
     ·exact ho t ht
     ·obtain rfl := List.mem_singleton.1 ht
      exact lxOne_ok h1 _
theorem qU0 {s : Bs} {ts : List Tok} (h : hM0 s = .ok ts) : ∀ n, mD0 (tk ts n) := by
 unfold hM0 at h
 split at h
 ·cases h
 ·have ha := oa0 (fun t ht => by cases ht) h
  intro n
  unfold tk
  rw [List.getD_eq_getElem?_getD]
  cases hn : ts[n]? with
  | none => exact ⟨fun h => absurd h (by decide), fun h => absurd h (by decide), fun h => absurd h (by decide)⟩
  | some t => exact ha t (List.mem_of_getElem? hn)
end Go.Am
end

section
namespace Go.Am
set_option maxRecDepth 100000
theorem of0 : ∀ (l : List Exq) (x : Exq), plL (l ++ [x]) = (plL l && plE x)
 | [], x => by simp [plL]
 | y :: l, x => by simp only [List.cons_append, plL, of0 l x, Bool.and_assoc]
structure OkE (x : Exq) (k : Nat) : Prop where
 sz : plE x = true
 sh : ∃ t, shE x = some t /\ t.length + 100 <= 1000 * k
structure OkL (l : List Exq) (k : Nat) : Prop where
 sz : plL l = true
 len : l.length <= k
 sh : ∃ ts, shL l = some ts /\ (ts.map fun t => t.length + 2).sum <= 1000 * k
theorem OkE.mono {x : Exq} {k k' : Nat} (h : OkE x k) (hk : k <= k') : OkE x k' := ⟨h.sz, by obtain ⟨t, h1, h2⟩ := h.sh; exact ⟨t, h1, by omega⟩⟩
theorem OkL.nil (k : Nat) : OkL [] k := ⟨rfl, by simp, [], by rw [shL.eq_def], by simp⟩
theorem oi0 : ∀ {l : List Exq} {x : Exq} {ts : List Bs} {t : Bs}, shL l = some ts -> shE x = some t -> shL (l ++ [x]) = some (ts ++ [t])
 | [], x, ts, t, h, h2 => by
  rw [shL.eq_def] at h; injection h with h; subst h
  rw [List.nil_append, shL.eq_def]; dsimp only; rw [h2, shL.eq_def]; rfl
 | y :: l, x, ts, t, h, h2 => by
  rw [shL.eq_def] at h
  dsimp only at h
  split at h
  ·rename_i a b ha hb
   injection h with h; subst h
   rw [List.cons_append, shL.eq_def]; dsimp only
   rw [ha, oi0 hb h2]; rfl
  ·cases h
theorem OkL.snoc {l : List Exq} {x : Exq} {k k2 : Nat} (h : OkL l k) (hx : OkE x k2) (h0 : 1 <= k2) : OkL (l ++ [x]) (k + k2) := by
 obtain ⟨ts, h1, h2⟩ := h.sh
 obtain ⟨t, h3, h4⟩ := hx.sh
 have := h.len
 refine ⟨by rw [of0, h.sz, hx.sz]; rfl, by simp; omega, _, oi0 h1 h3, ?_⟩
 rw [List.map_append, List.sum_append]
 simp
 omega
theorem OkL.mono {l : List Exq} {k k' : Nat} (h : OkL l k) (hk : k <= k') : OkL l k' := ⟨h.sz, by have := h.len; omega, by obtain ⟨t, h1, h2⟩ := h.sh; exact ⟨t, h1, by omega⟩⟩
theorem rM0 (ts : List Bs) : (sepB ts).length <= (ts.map fun t => t.length + 2).sum := by
 unfold sepB
 rw [List.length_flatten]
 have : ∀ (f : Nat -> Bs -> Bs) (hf : ∀ i t, (f i t).length <= t.length + 2) (l : List Bs), ((l.mapIdx f).map List.length).sum <= (l.map fun t => t.length + 2).sum := by
  intro f hf l
  induction l generalizing f with
  | nil => simp
  | cons t l ih =>
   rw [List.mapIdx_cons, List.map_cons, List.sum_cons, List.map_cons, List.sum_cons]
   have := hf 0 t
   have := ih (fun i => f (i + 1)) fun i t => hf (i + 1) t
   omega
 exact this _ (fun i t => by split <;> simp <;> omega) ts
theorem quote_len (s : Bs) : (kg0 s).length <= 2 * s.length + 2 := by
 unfold kg0
 have : ∀ l : Bs, (l.flatMap fun c => if c = 92 then [92, 92] else if c = 34 then [92, 34] else [c]).length <= 2 * l.length := by
  intro l
  induction l with
  | nil => simp
  | cons c l ih =>
   rw [List.flatMap_cons, List.length_append]
   have : (if c = 92 then [92, 92] else if c = 34 then [92, 34] else [c] : Bs).length <= 2 := by split; simp; split <;> simp
   simp only [List.length_cons]; omega
 have := this s
 simp only [List.length_append, List.length_cons, List.length_nil]; omega
theorem cz0 {s : Bs} (h : c70 s = true) : s.length <= 16 := by
 unfold c70 at h
 simp only [Bool.and_eq_true, decide_eq_true_eq] at h
 exact h.1.1.1.2
theorem okE_int {op num : Int} {text : ByteArray} {slot : Int} {type : ByteArray} {at_ : Int} (h0 : 0 <= num) (h1 : num < 9223372036854775808) : OkE (.mk 1 op num text slot type [] at_) 1 := by
 refine ⟨by rw [plE.eq_def]; simp [plL, h1], numB num, by rw [shE.eq_def]; simp [h0], ?_⟩
 have := Lib.itoa_length_le num (by omega) (by omega)
 unfold numB; omega
theorem okE_text {op num : Int} {text : ByteArray} {slot : Int} {type : ByteArray} {at_ : Int} (h1 : num < 9223372036854775808) (h : hP0 (sB text) = true) : OkE (.mk 3 op num text slot type [] at_) 1 := by
 refine ⟨by rw [plE.eq_def]; simp [plL, h1], kg0 (sB text), by rw [shE.eq_def]; simp [h], ?_⟩
 have := quote_len (sB text)
 unfold hP0 at h
 simp only [Bool.and_eq_true, decide_eq_true_eq] at h
 omega
theorem rC0 {op num : Int} {text : ByteArray} {slot : Int} {type : ByteArray} {at_ : Int} (h : num = 0 \/ num = 1) : OkE (.mk 2 op num text slot type [] at_) 1 := by
 refine ⟨by rw [plE.eq_def]; simp [plL]; omega, if num = 1 then hJ0 else eI0, by rw [shE.eq_def]; simp [h], ?_⟩
 split <;> simp [hJ0, eI0]
theorem okE_name {op num : Int} {text : ByteArray} {slot : Int} {type : ByteArray} {at_ : Int} (h1 : num < 9223372036854775808) (h : c70 (sB text) = true) : OkE (.mk 6 op num text slot type [] at_) 1 := by
 refine ⟨by rw [plE.eq_def]; simp [plL, h1], sB text, by rw [shE.eq_def]; simp [h], ?_⟩
 have := cz0 h; omega
theorem rD0 {op num : Int} {text : ByteArray} {slot : Int} {type : ByteArray} {at_ : Int} {args : List Exq} {k : Nat} (h1 : num < 9223372036854775808) (h : c70 (sB text) = true) (ha : OkL args k) (hk : k < 1073741824) :
  OkE (.mk 7 op num text slot type args at_) (k + 1) := by
 have hl := ha.len
 obtain ⟨ts, h2, h3⟩ := ha.sh
 refine ⟨by rw [plE.eq_def]; simp [ha.sz, h1]; omega, sB text ++ [40] ++ sepB ts ++ [41], by rw [shE.eq_def]; simp [h, h2], ?_⟩
 have := cz0 h
 have := rM0 ts
 simp only [List.length_append, List.length_cons, List.length_nil]; omega
theorem jI0 (s : Bs) (b : Bool) : (within s b).length <= s.length + 2 := by unfold within; split <;> simp
theorem okE_index {op num : Int} {text : ByteArray} {slot : Int} {type : ByteArray} {at_ : Int} {x y : Exq} {k1 k2 : Nat} (h1 : num < 9223372036854775808) (hx : OkE x k1) (hy : OkE y k2) :
  OkE (.mk 12 op num text slot type [x, y] at_) (k1 + k2) := by
 obtain ⟨a, h2, h3⟩ := hx.sh
 obtain ⟨b, h4, h5⟩ := hy.sh
 have hL : shL [x, y] = some [a, b] := by simp [shL.eq_def, h2, h4]
 refine ⟨by rw [plE.eq_def]; simp [plL, hx.sz, hy.sz, h1], within a (oO0 x) ++ [91] ++ b ++ [93], by rw [shE.eq_def]; simp [hL], ?_⟩
 have := jI0 a (oO0 x)
 simp only [List.length_append, List.length_cons, List.length_nil]; omega
theorem okE_un {k op num : Int} {text : ByteArray} {slot : Int} {type : ByteArray} {at_ : Int} {x : Exq} {k1 : Nat} (hk : k = 13 \/ k = 14) (h1 : num < 9223372036854775808) (hx : OkE x k1) :
  OkE (.mk k op num text slot type [x] at_) (k1 + 1) := by
 obtain ⟨a, h2, h3⟩ := hx.sh
 have hL : shL [x] = some [a] := by simp [shL.eq_def, h2]
 refine ⟨by rw [plE.eq_def]; simp [plL, hx.sz, h1], (if k = 13 then [45] else [33]) ++ within a (decide (x.kind = 15)), by rw [shE.eq_def]; rcases hk with rfl | rfl <;> simp [hL], ?_⟩
 have := jI0 a (decide (x.kind = 15))
 rw [List.length_append]
 split <;> simp only [List.length_cons, List.length_nil] <;> omega
theorem opB_len (op : Int) : (opB op).length <= 2 := by
 unfold opB
 generalize op.toNat - 1 = i
 by_cases h : i < 13
 ·have : ∀ i < 13, (pOps.getD i []).length <= 2 := by decide
  exact this i h
 ·rw [List.getD_eq_getElem?_getD, List.getElem?_eq_none (by simp [pOps, cr0]; omega)]; simp
theorem okE_bin {op num : Int} {text : ByteArray} {slot : Int} {type : ByteArray} {at_ : Int} {x y : Exq} {k1 k2 : Nat} (h1 : num < 9223372036854775808) (ho : opOk op = true) (hx : OkE x k1) (hy : OkE y k2) :
  OkE (.mk 15 op num text slot type [x, y] at_) (k1 + k2) := by
 obtain ⟨a, h2, h3⟩ := hx.sh
 obtain ⟨b, h4, h5⟩ := hy.sh
 have hL : shL [x, y] = some [a, b] := by simp [shL.eq_def, h2, h4]
 refine ⟨by rw [plE.eq_def]; simp [plL, hx.sz, hy.sz, h1], within a (dS0 x (if lvl op = 3 then 4 else lvl op)) ++ [32] ++ opB op ++ [32] ++ within b (dS0 y (lvl op + 1)), by rw [shE.eq_def]; simp [hL, ho], ?_⟩
 have := jI0 a (dS0 x (if lvl op = 3 then 4 else lvl op))
 have := jI0 b (dS0 y (lvl op + 1))
 have := opB_len op
 simp only [List.length_append, List.length_cons, List.length_nil]; omega
theorem so0 {l : Nat} {t : Tok} (h : ek0 l t = true) : opOk ((pOps.idxOf (sB t.text) : Nat) + 1) = true := by
 unfold ek0 at h
 simp only [Bool.and_eq_true, decide_eq_true_eq] at h
 have hl : l < 5 := by
  rcases Nat.lt_or_ge l 5 with h5 | h5
  ·exact h5
  ·have h2 := h.2
   rw [List.getD_eq_getElem?_getD, List.getElem?_eq_none (by simp [cr0]; omega)] at h2
   simp at h2
 have hm : sB t.text ∈ pOps := by
  have h2 : sB t.text ∈ cr0.getD l [] := by simpa using h.2
  unfold pOps
  rw [List.mem_flatten]
  refine ⟨cr0.getD l [], ?_, h2⟩
  rw [List.getD_eq_getElem?_getD, List.getElem?_eq_getElem (by simp [cr0]; omega)]
  exact List.getElem_mem _
 have := List.idxOf_lt_length_of_mem hm
 have h13 : pOps.length = 13 := rfl
 unfold opOk
 simp only [decide_eq_true_eq]
 omega
end Go.Am
end

section
namespace Go.Am
set_option maxRecDepth 100000
variable {ts : List Tok}
theorem gV0 (hT : ∀ n, mD0 (tk ts n)) {n : Nat} {a : Tok} {m : Nat} (h : dA0 ts n = .ok (a, m)) : c70 (sB a.text) = true /\ m = n + 1 := by
 unfold dA0 at h
 split at h
 ·rename_i hk
  injection h with h; injection h with h1 h2; subst h1 h2
  exact ⟨(hT n).name hk.1 hk.2, rfl⟩
 ·cases h
structure OkX (ts : List Tok) (f : Nat) : Prop where
 ex : ∀ {d n : Nat} {a : Exq} {m : Nat}, n < ts.length -> b10 ts f d n = .ok (a, m) -> OkE a (m - n)
 bin : ∀ {l d n : Nat} {a : Exq} {m : Nat}, n < ts.length -> pBin ts f l d n = .ok (a, m) -> OkE a (m - n)
 loop : ∀ {l d : Nat} {out : Exq} {n k : Nat} {a : Exq} {m : Nat}, n < ts.length -> OkE out k -> lC0 ts f l d out n = .ok (a, m) -> OkE a (k + (m - n))
 un : ∀ {d n : Nat} {a : Exq} {m : Nat}, n < ts.length -> pUn ts f d n = .ok (a, m) -> OkE a (m - n)
 post : ∀ {d : Nat} {out : Exq} {n k : Nat} {a : Exq} {m : Nat}, n < ts.length -> OkE out k -> lD0 ts f d out n = .ok (a, m) -> OkE a (k + (m - n))
 prim : ∀ {d n : Nat} {a : Exq} {m : Nat}, n < ts.length -> jX0 ts f d n = .ok (a, m) -> OkE a (m - n)
 args : ∀ {d : Nat} {out : List Exq} {n k : Nat} {a : List Exq} {m : Nat}, n < ts.length -> OkL out k -> iW0 ts f d out n = .ok (a, m) -> OkL a (k + (m - n))
theorem okX (hE : TEnd ts) (hT : ∀ n, mD0 (tk ts n)) (hL : ts.length < 1073741824) : ∀ f, OkX ts f
 | 0 => ⟨fun _ h => by simp [b10] at h, fun _ h => by simp [pBin] at h, fun _ _ h => by simp [lC0] at h, fun _ h => by simp [pUn] at h, fun _ _ h => by simp [lD0] at h, fun _ h => by simp [jX0] at h, fun _ _ h => by simp [iW0] at h⟩
 | f + 1 => by
  have ih := okX hE hT hL f
  have ig := ks0 hE f
  refine ⟨fun hn h => ?_, fun hn h => ?_, fun hn ho h => ?_, fun hn h => ?_, fun hn ho h => ?_, fun hn h => ?_, fun hn ho h => ?_⟩
  ·rw [b10] at h
   obtain ⟨_, _, h⟩ := ag0 h
   exact ih.bin hn h
  ·rw [pBin] at h
   split at h
   ·exact ih.un hn h
   ·obtain ⟨⟨b, n1⟩, e1, h⟩ := ag0 h
    have q1 := ig.bin hn e1
    have q2 := ig.loop q1.2 h
    exact (ih.loop q1.2 (ih.bin hn e1) h).mono (by dsimp only at *; omega)
  ·rw [lC0] at h
   split at h
   ·rename_i hi
    have h0 := hE _ hn (by rw [iR0 hi]; decide)
    obtain ⟨⟨b, n1⟩, e1, h⟩ := ag0 h
    have q1 := ig.bin h0 e1
    have hb := fun (at_ : Int) => okE_bin (num := 0) (text := bS []) (slot := 0) (type := bS []) (at_ := at_) (by decide) (so0 hi) ho (ih.bin h0 e1)
    dsimp only at *
    split at h
    ·split at h
     ·cases h
     ·injection h with h; injection h with h1 h2; subst h1 h2; exact (hb _).mono (by omega)
    ·have q2 := ig.loop q1.2 h
     exact (ih.loop q1.2 (hb _) h).mono (by omega)
   ·injection h with h; injection h with h1 h2; subst h1 h2; exact ho.mono (by omega)
  ·rw [pUn] at h
   split at h
   ·rename_i hi
    have h0 := aw0 hE hn hi (by decide)
    obtain ⟨_, _, h⟩ := ag0 h
    obtain ⟨⟨b, n1⟩, e1, h⟩ := ag0 h
    have q1 := ig.un h0 e1
    injection h with h; injection h with h1 h2; subst h1 h2
    exact (okE_un (.inl rfl) (by decide) (ih.un h0 e1)).mono (by dsimp only at *; omega)
   split at h
   ·rename_i hi
    have h0 := aw0 hE hn hi (by decide)
    obtain ⟨_, _, h⟩ := ag0 h
    obtain ⟨⟨b, n1⟩, e1, h⟩ := ag0 h
    have q1 := ig.un h0 e1
    injection h with h; injection h with h1 h2; subst h1 h2
    exact (okE_un (.inr rfl) (by decide) (ih.un h0 e1)).mono (by dsimp only at *; omega)
   ·obtain ⟨⟨b, n1⟩, e1, h⟩ := ag0 h
    have q1 := ig.prim hn e1
    have q2 := ig.post q1.2 h
    exact (ih.post q1.2 (ih.prim hn e1) h).mono (by dsimp only at *; omega)
  ·rw [lD0] at h
   split at h
   ·rename_i hi
    have h0 := aw0 hE hn hi (by decide)
    obtain ⟨⟨b, n1⟩, e1, h⟩ := ag0 h
    obtain ⟨n2, e2, h⟩ := ag0 h
    have q1 := ig.ex h0 e1
    have q2 := al0 hE q1.2 e2
    have q3 := ig.post q2.2 h
    exact (ih.post q2.2 (okE_index (by decide) ho (ih.ex h0 e1)) h).mono (by dsimp only at *; omega)
   ·injection h with h; injection h with h1 h2; subst h1 h2; exact ho.mono (by omega)
  ·rw [jX0] at h
   split at h
   ·rename_i hk
    have hx := (hT _).num hk
    injection h with h; injection h with h1 h2; subst h1 h2; exact (okE_int hx.1 hx.2).mono (by omega)
   split at h
   ·rename_i hk
    have hx := (hT _).text hk
    injection h with h; injection h with h1 h2; subst h1 h2; exact (okE_text (by decide) hx).mono (by omega)
   split at h
   ·injection h with h; injection h with h1 h2; subst h1 h2; exact (rC0 (.inr rfl)).mono (by omega)
   split at h
   ·injection h with h; injection h with h1 h2; subst h1 h2; exact (rC0 (.inl rfl)).mono (by omega)
   split at h
   ·rename_i hi
    have h0 := aw0 hE hn hi (by decide)
    obtain ⟨⟨b, n1⟩, e1, h⟩ := ag0 h
    obtain ⟨n2, e2, h⟩ := ag0 h
    have q1 := ig.ex h0 e1
    have q2 := al0 hE q1.2 e2
    injection h with h; injection h with h1 h2; subst h1 h2
    exact (ih.ex h0 e1).mono (by dsimp only at *; omega)
   ·obtain ⟨⟨b, n1⟩, e1, h⟩ := ag0 h
    have q1 := a10 hE hn e1
    obtain ⟨hnm, rfl⟩ := gV0 hT e1
    split at h
    ·rename_i hi
     have h0 := aw0 hE q1.2 hi (by decide)
     split at h
     ·injection h with h; injection h with h1 h2; subst h1 h2
      exact (rD0 (by decide) hnm (.nil 0) (by decide)).mono (by omega)
     ·obtain ⟨⟨b2, n2⟩, e4, h⟩ := ag0 h
      have q2 := ig.args h0 e4
      injection h with h; injection h with h1 h2; subst h1 h2
      exact (rD0 (by decide) hnm (ih.args h0 (.nil 0) e4) (by dsimp only at *; omega)).mono (by dsimp only at *; omega)
    ·injection h with h; injection h with h1 h2; subst h1 h2
     exact (okE_name (by decide) hnm).mono (by omega)
  ·rw [iW0] at h
   obtain ⟨⟨b, n1⟩, e1, h⟩ := ag0 h
   have q1 := ig.ex hn e1
   dsimp only at *
   have hx := ho.snoc (ih.ex hn e1) (by omega)
   split at h
   ·injection h with h; injection h with h1 h2; subst h1 h2; exact hx.mono (by omega)
   ·obtain ⟨n2, e2, h⟩ := ag0 h
    have q2 := al0 hE q1.2 e2
    have q3 := ig.args q2.2 h
    exact (ih.args q2.2 hx h).mono (by omega)
end Go.Am
end

section
namespace Go.Am
set_option maxRecDepth 100000
variable {ts : List Tok}
theorem oe0 : ∀ (l : List Stm) (x : Stm), plB (l ++ [x]) = (plB l && plS x)
 | [], x => by simp [plB]
 | y :: l, x => by simp only [List.cons_append, plB, oe0 l x, Bool.and_assoc]
structure OkS (x : Stm) (k d : Nat) : Prop where
 sz : plS x = true
 sh : ∀ n, n <= d + 1 -> ∃ t, shS n x = some t /\ t.length + 100 <= 1000 * k
structure OkT (l : List Stm) (k d : Nat) : Prop where
 sz : plB l = true
 len : l.length <= k
 sh : ∀ n, n <= d -> ∃ t, shT n l = some t /\ t.length <= 1000 * k
structure OkB (l : List Stm) (k d : Nat) : Prop where
 sz : plB l = true
 len : l.length <= k
 sh : ∀ n, n <= d -> ∃ t, shB n l = some t /\ t.length + 100 <= 1000 * k
theorem OkS.mono {x : Stm} {k k' d : Nat} (h : OkS x k d) (hk : k <= k') : OkS x k' d := ⟨h.sz, fun n hn => by obtain ⟨t, h1, h2⟩ := h.sh n hn; exact ⟨t, h1, by omega⟩⟩
theorem OkT.mono {x : List Stm} {k k' d : Nat} (h : OkT x k d) (hk : k <= k') : OkT x k' d := ⟨h.sz, by have := h.len; omega, fun n hn => by obtain ⟨t, h1, h2⟩ := h.sh n hn; exact ⟨t, h1, by omega⟩⟩
theorem OkT.nil (k d : Nat) : OkT [] k d := ⟨rfl, by simp, fun n hn => ⟨[], by rw [shT.eq_def], by simp⟩⟩
theorem oj0 {n : Nat} : ∀ {l : List Stm} {x : Stm} {t a : Bs}, shT n l = some t -> shS (n + 1) x = some a -> shT n (l ++ [x]) = some (t ++ (tabs (n + 1) ++ a ++ [10]))
 | [], x, t, a, h, h2 => by
  rw [shT.eq_def] at h; injection h with h; subst h
  rw [List.nil_append, shT.eq_def]; dsimp only; rw [h2, shT.eq_def]; simp
 | y :: l, x, t, a, h, h2 => by
  rw [shT.eq_def] at h
  dsimp only at h
  split at h
  ·rename_i a' b ha hb
   injection h with h; subst h
   rw [List.cons_append, shT.eq_def]; dsimp only
   rw [ha, oj0 hb h2]; simp
  ·cases h
theorem OkT.snoc {l : List Stm} {x : Stm} {k k2 d : Nat} (h : OkT l k d) (hx : OkS x k2 d) (hd : d <= 24) : OkT (l ++ [x]) (k + k2) d := by
 have := h.len
 have h1k : 1 <= k2 := by
  obtain ⟨t, _, h4⟩ := hx.sh 0 (by omega)
  omega
 refine ⟨by rw [oe0, h.sz, hx.sz]; rfl, by simp; omega, fun n hn => ?_⟩
 obtain ⟨t, h1, h2⟩ := h.sh n hn
 obtain ⟨a, h3, h4⟩ := hx.sh (n + 1) (by omega)
 refine ⟨_, oj0 h1 h3, ?_⟩
 have : (tabs (n + 1)).length = n + 1 := by simp [tabs]
 simp only [List.length_append, List.length_cons, List.length_nil]; omega
theorem OkT.block {l : List Stm} {k d : Nat} (h : OkT l k d) (hd : d <= 24) : OkB l (k + 1) d := by
 refine ⟨h.sz, by have := h.len; omega, fun n hn => ?_⟩
 cases l with
 | nil => exact ⟨[123, 125], by rw [shB.eq_def], by simp; omega⟩
 | cons x l =>
  obtain ⟨t, h1, h2⟩ := h.sh n hn
  refine ⟨[123, 10] ++ t ++ tabs n ++ [125], by rw [rN0, h1]; rfl, ?_⟩
  have : (tabs n).length = n := by simp [tabs]
  simp only [List.length_append, List.length_cons, List.length_nil]; omega
theorem lM0 {x : Exq} {a : Bs} (h : shE x = some a) : shL [x] = some [a] := by simp [shL.eq_def, h]
theorem shL_two {x y : Exq} {a b : Bs} (h : shE x = some a) (h2 : shE y = some b) : shL [x, y] = some [a, b] := by simp [shL.eq_def, h, h2]
theorem okS_let {name : ByteArray} {x : Exq} {k d : Nat} {at_ : Int} (hn : c70 (sB name) = true) (hx : OkE x k) : OkS (stm0 1 name [x] [] [] at_) (k + 1) d := by
 obtain ⟨a, h1, h2⟩ := hx.sh
 refine ⟨by unfold stm0; rw [plS.eq_def]; simp [plL, plB, hx.sz], fun n _ => ⟨fg0 ++ [32] ++ sB name ++ [32, 61, 32] ++ a ++ [59], by unfold stm0; rw [shS.eq_def]; simp [lM0 h1, hn], ?_⟩⟩
 have := cz0 hn
 simp only [List.length_append, List.length_cons, List.length_nil, fg0]; omega
theorem okS_set {name : ByteArray} {x : Exq} {k d : Nat} {at_ : Int} (hn : c70 (sB name) = true) (hx : OkE x k) : OkS (stm0 2 name [x] [] [] at_) (k + 1) d := by
 obtain ⟨a, h1, h2⟩ := hx.sh
 refine ⟨by unfold stm0; rw [plS.eq_def]; simp [plL, plB, hx.sz], fun n _ => ⟨em0 ++ [32] ++ sB name ++ [32, 61, 32] ++ a ++ [59], by unfold stm0; rw [shS.eq_def]; simp [lM0 h1, hn], ?_⟩⟩
 have := cz0 hn
 simp only [List.length_append, List.length_cons, List.length_nil, em0]; omega
theorem okS_put {name : ByteArray} {x y : Exq} {k k2 d : Nat} {at_ : Int} (hn : c70 (sB name) = true) (hx : OkE x k) (hy : OkE y k2) : OkS (stm0 2 name [x, y] [] [] at_) (k + k2 + 1) d := by
 obtain ⟨a, h1, h2⟩ := hx.sh
 obtain ⟨b, h3, h4⟩ := hy.sh
 refine ⟨by unfold stm0; rw [plS.eq_def]; simp [plL, plB, hx.sz, hy.sz], fun n _ => ⟨em0 ++ [32] ++ sB name ++ [91] ++ a ++ [93] ++ [32, 61, 32] ++ b ++ [59], by unfold stm0; rw [shS.eq_def]; simp [shL_two h1 h3, hn], ?_⟩⟩
 have := cz0 hn
 simp only [List.length_append, List.length_cons, List.length_nil, em0]; omega
theorem okS_del {name : ByteArray} {x : Exq} {k d : Nat} {at_ : Int} (hn : c70 (sB name) = true) (hx : OkE x k) : OkS (stm0 3 name [x] [] [] at_) (k + 1) d := by
 obtain ⟨a, h1, h2⟩ := hx.sh
 refine ⟨by unfold stm0; rw [plS.eq_def]; simp [plL, plB, hx.sz], fun n _ => ⟨fe0 ++ [32] ++ sB name ++ [91] ++ a ++ [93, 59], by unfold stm0; rw [shS.eq_def]; simp [lM0 h1, hn], ?_⟩⟩
 have := cz0 hn
 simp only [List.length_append, List.length_cons, List.length_nil, fe0]; omega
theorem okS_if {name : ByteArray} {x : Exq} {k kb kc d : Nat} {body els : List Stm} {at_ : Int} (hx : OkE x k) (hb : OkB body kb (d + 1)) (hc : els = [] \/ OkB els kc (d + 1)) (hk : kb + kc < 1073741824) :
  OkS (stm0 4 name [x] body els at_) (k + kb + kc + 1) d := by
 obtain ⟨a, h1, h2⟩ := hx.sh
 have hbl := hb.len
 have hcz : plB els = true /\ els.length < 1073741824 := by
  rcases hc with rfl | hc
  ·exact ⟨rfl, by simp⟩
  ·exact ⟨hc.sz, by have := hc.len; omega⟩
 refine ⟨by unfold stm0; rw [plS.eq_def]; simp [plL, hb.sz, hcz.1, hx.sz, hcz.2]; omega, fun n hn => ?_⟩
 obtain ⟨b, h3, h4⟩ := hb.sh n hn
 have hcs : ∃ c, shB n els = some c /\ (if els = [] then ([] : Bs) else [32] ++ cp0 ++ [32] ++ c).length <= 1000 * kc := by
  by_cases he : els = []
  ·subst he; exact ⟨[123, 125], by rw [shB.eq_def], by simp⟩
  ·rcases hc with hc | hc
   ·exact absurd hc he
   ·obtain ⟨c, h5, h6⟩ := hc.sh n hn
    refine ⟨c, h5, ?_⟩
    rw [if_neg he]; simp only [List.length_append, List.length_cons, List.length_nil, cp0]; omega
 obtain ⟨c, h5, h6⟩ := hcs
 refine ⟨kwIf ++ [32] ++ a ++ [32] ++ b ++ (if els = [] then [] else [32] ++ cp0 ++ [32] ++ c), by unfold stm0; rw [shS.eq_def]; simp [lM0 h1, h3, h5], ?_⟩
 rw [List.length_append]
 generalize (if els = [] then ([] : Bs) else [32] ++ cp0 ++ [32] ++ c).length = q at *
 simp only [List.length_append, List.length_cons, List.length_nil, kwIf]; omega
theorem okS_for {name : ByteArray} {x : Exq} {k kb d : Nat} {body : List Stm} {at_ : Int} (hn : c70 (sB name) = true) (hx : OkE x k) (hb : OkB body kb (d + 1)) (hk : kb < 1073741824) :
  OkS (stm0 5 name [x] body [] at_) (k + kb + 1) d := by
 obtain ⟨a, h1, h2⟩ := hx.sh
 have hbl := hb.len
 have := cz0 hn
 refine ⟨by unfold stm0; rw [plS.eq_def]; simp [plL, hb.sz, plB, hx.sz]; omega, fun n hn' => ?_⟩
 obtain ⟨b, h3, h4⟩ := hb.sh n hn'
 refine ⟨ff0 ++ [32] ++ sB name ++ [32] ++ kwTo ++ [32] ++ a ++ [32] ++ b, by unfold stm0; rw [shS.eq_def]; simp [lM0 h1, h3, hn], ?_⟩
 simp only [List.length_append, List.length_cons, List.length_nil, ff0, kwTo]; omega
theorem okS_ret {name : ByteArray} {x : Exq} {k d : Nat} {at_ : Int} (hx : OkE x k) : OkS (stm0 6 name [x] [] [] at_) (k + 1) d := by
 obtain ⟨a, h1, h2⟩ := hx.sh
 refine ⟨by unfold stm0; rw [plS.eq_def]; simp [plL, plB, hx.sz], fun n _ => ⟨fh0 ++ [32] ++ a ++ [59], by unfold stm0; rw [shS.eq_def]; simp [lM0 h1], ?_⟩⟩
 simp only [List.length_append, List.length_cons, List.length_nil, fh0]; omega
end Go.Am
end

section
namespace Go.Am
set_option maxRecDepth 100000
variable {ts : List Tok}
theorem pDeep_le {n d : Nat} {u : Unit} (h : kw0 ts n d = .ok u) : d <= 24 := by
 unfold kw0 at h
 split at h
 ·cases h
 ·exact Nat.le_of_not_lt ‹_›
structure OkG (ts : List Tok) (f : Nat) : Prop where
 block : ∀ {d n : Nat} {a : List Stm} {m : Nat}, n < ts.length -> ca0 ts f d n = .ok (a, m) -> OkB a (m - n) d
 stms : ∀ {d : Nat} {out : List Stm} {n k : Nat} {a : List Stm} {m : Nat}, n < ts.length -> d <= 24 -> OkT out k d -> lF0 ts f d out n = .ok (a, m) -> OkT a (k + (m - n)) d
 stm : ∀ {d n : Nat} {a : Stm} {m : Nat}, n < ts.length -> pStm ts f d n = .ok (a, m) -> OkS a (m - n) d
theorem okG (hE : TEnd ts) (hT : ∀ n, mD0 (tk ts n)) (hL : ts.length < 1073741824) : ∀ f, OkG ts f
 | 0 => ⟨fun _ h => by simp [ca0] at h, fun _ _ _ h => by simp [lF0] at h, fun _ h => by simp [pStm] at h⟩
 | f + 1 => by
  have ih := okG hE hT hL f
  have io := okX hE hT hL f
  have ix := ks0 hE f
  have is := mY0 hE f
  refine ⟨fun hn h => ?_, fun hn hd ho h => ?_, fun hn h => ?_⟩
  ·rw [ca0] at h
   obtain ⟨_, e0, h⟩ := ag0 h
   obtain ⟨n1, e1, h⟩ := ag0 h
   have hd := pDeep_le e0
   have q1 := al0 hE hn e1
   have q2 := is.stms q1.2 h
   have := (ih.stms q1.2 hd (.nil 0 _) h).block hd
   exact ⟨this.sz, by have := this.len; omega, fun n hn => by obtain ⟨t, h1, h2⟩ := this.sh n hn; exact ⟨t, h1, by omega⟩⟩
  ·rw [lF0] at h
   split at h
   ·injection h with h; injection h with h1 h2; subst h1 h2; exact ho.mono (by omega)
   ·obtain ⟨⟨s, n1⟩, e1, h⟩ := ag0 h
    have q1 := is.stm hn e1
    have q2 := is.stms q1.2 h
    exact (ih.stms q1.2 hd (ho.snoc (ih.stm hn e1) hd) h).mono (by dsimp only at *; omega)
  ·rw [pStm] at h
   split at h
   ·rename_i hi
    have h0 := aw0 hE hn hi (by decide)
    obtain ⟨⟨t, n1⟩, e1, h⟩ := ag0 h
    obtain ⟨n2, e2, h⟩ := ag0 h
    obtain ⟨⟨x, n3⟩, e3, h⟩ := ag0 h
    obtain ⟨n4, e4, h⟩ := ag0 h
    have q1 := a10 hE h0 e1
    have q2 := al0 hE q1.2 e2
    have q3 := ix.ex q2.2 e3
    have q4 := al0 hE q3.2 e4
    injection h with h; injection h with h1 h2; subst h1 h2
    exact (okS_let (gV0 hT e1).1 (io.ex q2.2 e3)).mono (by dsimp only at *; omega)
   split at h
   ·rename_i hi
    have h0 := aw0 hE hn hi (by decide)
    obtain ⟨⟨t, n1⟩, e1, h⟩ := ag0 h
    have q1 := a10 hE h0 e1
    split at h
    ·rename_i hi2
     have h00 := aw0 hE q1.2 hi2 (by decide)
     obtain ⟨⟨x, n3⟩, e3, h⟩ := ag0 h
     obtain ⟨n4, e4, h⟩ := ag0 h
     obtain ⟨n5, e5, h⟩ := ag0 h
     obtain ⟨⟨y, n6⟩, e6, h⟩ := ag0 h
     obtain ⟨n7, e7, h⟩ := ag0 h
     have q3 := ix.ex h00 e3
     have q4 := al0 hE q3.2 e4
     have q5 := al0 hE q4.2 e5
     have q6 := ix.ex q5.2 e6
     have q7 := al0 hE q6.2 e7
     injection h with h; injection h with h1 h2; subst h1 h2
     exact (okS_put (gV0 hT e1).1 (io.ex h00 e3) (io.ex q5.2 e6)).mono (by dsimp only at *; omega)
    ·obtain ⟨n2, e2, h⟩ := ag0 h
     obtain ⟨⟨x, n3⟩, e3, h⟩ := ag0 h
     obtain ⟨n4, e4, h⟩ := ag0 h
     have q2 := al0 hE q1.2 e2
     have q3 := ix.ex q2.2 e3
     have q4 := al0 hE q3.2 e4
     injection h with h; injection h with h1 h2; subst h1 h2
     exact (okS_set (gV0 hT e1).1 (io.ex q2.2 e3)).mono (by dsimp only at *; omega)
   split at h
   ·rename_i hi
    have h0 := aw0 hE hn hi (by decide)
    obtain ⟨⟨t, n1⟩, e1, h⟩ := ag0 h
    obtain ⟨n2, e2, h⟩ := ag0 h
    obtain ⟨⟨x, n3⟩, e3, h⟩ := ag0 h
    obtain ⟨n4, e4, h⟩ := ag0 h
    obtain ⟨n5, e5, h⟩ := ag0 h
    have q1 := a10 hE h0 e1
    have q2 := al0 hE q1.2 e2
    have q3 := ix.ex q2.2 e3
    have q4 := al0 hE q3.2 e4
    have q5 := al0 hE q4.2 e5
    injection h with h; injection h with h1 h2; subst h1 h2
    exact (okS_del (gV0 hT e1).1 (io.ex q2.2 e3)).mono (by dsimp only at *; omega)
   split at h
   ·rename_i hi
    have h0 := aw0 hE hn hi (by decide)
    obtain ⟨⟨x, n1⟩, e1, h⟩ := ag0 h
    have q1 := ix.ex h0 e1
    obtain ⟨⟨b, n2⟩, e2, h⟩ := ag0 h
    have q2 := is.block q1.2 e2
    split at h
    ·rename_i hi2
     have h00 := aw0 hE q2.2 hi2 (by decide)
     obtain ⟨⟨c, n3⟩, e3, h⟩ := ag0 h
     have q3 := is.block h00 e3
     injection h with h; injection h with h1 h2; subst h1 h2
     exact (okS_if (io.ex h0 e1) (ih.block q1.2 e2) (.inr (ih.block h00 e3)) (by dsimp only at *; omega)).mono (by dsimp only at *; omega)
    ·injection h with h; injection h with h1 h2; subst h1 h2
     exact (okS_if (kc := 0) (io.ex h0 e1) (ih.block q1.2 e2) (.inl rfl) (by dsimp only at *; omega)).mono (by dsimp only at *; omega)
   split at h
   ·rename_i hi
    have h0 := aw0 hE hn hi (by decide)
    obtain ⟨⟨t, n1⟩, e1, h⟩ := ag0 h
    obtain ⟨n2, e2, h⟩ := ag0 h
    obtain ⟨⟨x, n3⟩, e3, h⟩ := ag0 h
    obtain ⟨⟨b, n4⟩, e4, h⟩ := ag0 h
    have q1 := a10 hE h0 e1
    have q2 := k80 hE q1.2 e2
    have q3 := ix.ex q2.2 e3
    have q4 := is.block q3.2 e4
    injection h with h; injection h with h1 h2; subst h1 h2
    exact (okS_for (gV0 hT e1).1 (io.ex q2.2 e3) (ih.block q3.2 e4) (by dsimp only at *; omega)).mono (by dsimp only at *; omega)
   split at h
   ·rename_i hi
    have h0 := aw0 hE hn hi (by decide)
    obtain ⟨⟨x, n1⟩, e1, h⟩ := ag0 h
    obtain ⟨n2, e2, h⟩ := ag0 h
    have q1 := ix.ex h0 e1
    have q2 := al0 hE q1.2 e2
    injection h with h; injection h with h1 h2; subst h1 h2
    exact (okS_ret (io.ex h0 e1)).mono (by dsimp only at *; omega)
   ·cases h
theorem pKey_ty {n : Nat} {a : Bs} {m : Nat} (h : pKey ts n = .ok (a, m)) : a = gE0 \/ a = dk0 := by
 unfold pKey at h
 split at h
 ·injection h with h; injection h with h1 h2; exact .inl h1.symm
 split at h
 ·injection h with h; injection h with h1 h2; exact .inr h1.symm
 ·cases h
theorem oY0 : ∀ {r n : Nat} {a : Bs} {m : Nat}, fL0 ts r n = .ok (a, m) -> ∃ d, IsTy d a /\ d <= r
 | 0, n, a, m, h => by simp [fL0, e50] at h
 | r + 1, n, a, m, h => by
  rw [fL0] at h
  split at h
  ·injection h with h; injection h with h1 h2; subst h1; exact ⟨1, .base (by decide), by omega⟩
  split at h
  ·obtain ⟨⟨b, n1⟩, e1, h⟩ := ag0 h
   obtain ⟨n2, e2, h⟩ := ag0 h
   injection h with h; injection h with h1 h2; subst h1
   obtain ⟨d, hd, hr⟩ := oY0 e1
   exact ⟨d + 1, .list hd, by omega⟩
  split at h
  ·obtain ⟨⟨k, n0⟩, e0, h⟩ := ag0 h
   obtain ⟨n1, e1, h⟩ := ag0 h
   obtain ⟨⟨b, n2⟩, e2, h⟩ := ag0 h
   obtain ⟨n3, e3, h⟩ := ag0 h
   injection h with h; injection h with h1 h2; subst h1
   obtain ⟨d, hd, hr⟩ := oY0 e2
   rcases pKey_ty e0 with rfl | rfl
   ·exact ⟨d + 1, .mapI hd, by omega⟩
   ·exact ⟨d + 1, .mapT hd, by omega⟩
  ·rcases pKey_ty h with rfl | rfl
   ·exact ⟨1, .base (by decide), by omega⟩
   ·exact ⟨1, .base (by decide), by omega⟩
theorem ne0 {n : Nat} {a : Bs} {m : Nat} (h : fL0 ts 4 n = .ok (a, m)) : rc0 a = true /\ a.length <= 28 := by
 obtain ⟨d, hd, hr⟩ := oY0 h
 refine ⟨?_, ?_⟩
 ·unfold rc0; rw [tyB_ty hd]; simp; omega
 ·have : a.length <= 7 * d := by
   clear h hr
   induction hd with
   | base h => rcases jn0 h with rfl | rfl | rfl <;> simp [gE0, el0, dk0]
   | list h ih => simp; omega
   | mapI h ih => simp [dl0]; omega
   | mapT h ih => simp [ce0]; omega
  omega
theorem rE0 (hT : ∀ n, mD0 (tk ts n)) {n : Nat} {a : Slo} {m : Nat} (h : ky0 ts n = .ok (a, m)) : ∃ t, iv0 a = some t /\ t.length <= 60 := by
 unfold ky0 at h
 obtain ⟨⟨t, n1⟩, e1, h⟩ := ag0 h
 obtain ⟨n2, e2, h⟩ := ag0 h
 obtain ⟨⟨k, n3⟩, e3, h⟩ := ag0 h
 injection h with h; injection h with h1 h2; subst h1
 have hn := (gV0 hT e1).1
 have hk := ne0 e3
 refine ⟨sB t.text ++ [58, 32] ++ k, by unfold iv0; simp [hn, hk.1], ?_⟩
 have := cz0 hn
 simp only [List.length_append, List.length_cons, List.length_nil]; omega
end Go.Am
end

section
namespace Go.Am
set_option maxRecDepth 100000
variable {ts : List Tok}
theorem kh0 : ∀ {l : List Slo} {x : Slo} {ps : List Bs} {t : Bs}, cR0 l = some ps -> iv0 x = some t -> cR0 (l ++ [x]) = some (ps ++ [t])
 | [], x, ps, t, h, h2 => by
  rw [cR0.eq_def] at h; injection h with h; subst h
  rw [List.nil_append, cR0.eq_def]; dsimp only; rw [h2, cR0.eq_def]; rfl
 | y :: l, x, ps, t, h, h2 => by
  rw [cR0.eq_def] at h
  dsimp only at h
  split at h
  ·rename_i a b ha hb
   injection h with h; subst h
   rw [List.cons_append, cR0.eq_def]; dsimp only
   rw [ha, kh0 hb h2]; rfl
  ·cases h
theorem jg0 : ∀ {l : List Slo} {x : Slo} {a t : Bs}, cA0 l = some a -> iv0 x = some t -> cA0 (l ++ [x]) = some (a ++ (fi0 ++ [32] ++ t ++ [59, 10]))
 | [], x, a, t, h, h2 => by
  rw [cA0.eq_def] at h; injection h with h; subst h
  rw [List.nil_append, cA0.eq_def]; dsimp only; rw [h2, cA0.eq_def]; simp
 | y :: l, x, a, t, h, h2 => by
  rw [cA0.eq_def] at h
  dsimp only at h
  split at h
  ·rename_i b c ha hb
   injection h with h; subst h
   rw [List.cons_append, cA0.eq_def]; dsimp only
   rw [ha, jg0 hb h2]; simp
  ·cases h
theorem lg0 : ∀ {l : List Fun} {x : Fun} {a t : Bs}, gz0 l = some a -> qp0 x = some t -> gz0 (l ++ [x]) = some (a ++ t)
 | [], x, a, t, h, h2 => by
  rw [gz0.eq_def] at h; injection h with h; subst h
  rw [List.nil_append, gz0.eq_def]; dsimp only; rw [h2, gz0.eq_def]; simp
 | y :: l, x, a, t, h, h2 => by
  rw [gz0.eq_def] at h
  dsimp only at h
  split at h
  ·rename_i b c ha hb
   injection h with h; subst h
   rw [List.cons_append, gz0.eq_def]; dsimp only
   rw [ha, lg0 hb h2]; simp
  ·cases h
structure OkPs (l : List Slo) (k : Nat) : Prop where
 len : l.length <= k
 sh : ∃ ps, cR0 l = some ps /\ (ps.map fun t => t.length + 2).sum <= 100 * k
theorem OkPs.nil : OkPs [] 0 := ⟨by simp, [], by rw [cR0.eq_def], by simp⟩
theorem OkPs.snoc {l : List Slo} {x : Slo} {k : Nat} (h : OkPs l k) (hx : ∃ t, iv0 x = some t /\ t.length <= 60) : OkPs (l ++ [x]) (k + 1) := by
 obtain ⟨t, h1, h2⟩ := hx
 obtain ⟨ps, h3, h4⟩ := h.sh
 have := h.len
 refine ⟨by simp; omega, _, kh0 h3 h1, ?_⟩
 rw [List.map_append, List.sum_append]; simp; omega
theorem ob0 (hE : TEnd ts) (hT : ∀ n, mD0 (tk ts n)) : ∀ {f : Nat} {out : List Slo} {n k : Nat}, n < ts.length -> OkPs out k -> ∀ {a : List Slo} {m : Nat}, c80 ts f out n = .ok (a, m) -> OkPs a (k + (m - n))
 | 0, out, n, k, hn, ho, a, m, h => by simp [c80] at h
 | f + 1, out, n, k, hn, ho, a, m, h => by
  rw [c80] at h
  obtain ⟨⟨s, n1⟩, e1, h⟩ := ag0 h
  have q1 := ig0 hE hn e1
  have hs := ho.snoc (rE0 hT e1)
  have mono : ∀ {l : List Slo} {k k' : Nat}, OkPs l k -> k <= k' -> OkPs l k' := fun h hk => ⟨by have := h.len; omega, by obtain ⟨t, h1, h2⟩ := h.sh; exact ⟨t, h1, by omega⟩⟩
  dsimp only at *
  split at h
  ·injection h with h; injection h with h1 h2; subst h1 h2; exact mono hs (by omega)
  ·obtain ⟨n2, e2, h⟩ := ag0 h
   have q2 := al0 hE q1.2 e2
   have q3 := fO0 hE q2.2 h
   exact mono (ob0 hE hT q2.2 hs h) (by omega)
structure OkF (f : Fun) (k : Nat) : Prop where
 lo : f.locals = []
 ps : f.params.length <= k
 b : f.body.length <= k
 sz : plB f.body = true
 sh : ∃ t, qp0 f = some t /\ t.length <= 1000 * k
theorem pFun_ok (hE : TEnd ts) (hT : ∀ n, mD0 (tk ts n)) (hL : ts.length < 1073741824) {n : Nat} (hn : n < ts.length) {f : Nat} {on : Bool} {a : Fun} {m : Nat} (h : pFun ts f on n = .ok (a, m)) : OkF a (m - n) := by
 have hlt := kx0 hE hn h
 unfold pFun at h
 obtain ⟨⟨t, n1⟩, e1, h⟩ := ag0 h
 obtain ⟨n2, e2, h⟩ := ag0 h
 obtain ⟨⟨ps, n3⟩, e3, h⟩ := ag0 h
 obtain ⟨n4, e4, h⟩ := ag0 h
 obtain ⟨⟨k, n5⟩, e5, h⟩ := ag0 h
 obtain ⟨⟨b, n6⟩, e6, h⟩ := ag0 h
 have q1 := a10 hE hn e1
 have q2 := al0 hE q1.2 e2
 dsimp only at *
 have q3 : n2 < n3 /\ n3 < ts.length /\ OkPs ps (n3 - n2) := by
  split at e3
  ·rename_i hi
   have h0 := aw0 hE q2.2 hi (by decide)
   injection e3 with e3; injection e3 with h1 h2; subst h1 h2
   exact ⟨by omega, h0, by simp, [], by rw [cR0.eq_def], by simp⟩
  ·have := fO0 hE q2.2 e3
   have h2 := ob0 hE hT q2.2 .nil e3
   rw [Nat.zero_add] at h2
   exact ⟨this.1, this.2, h2⟩
 have q4 := al0 hE q3.2.1 e4
 have q5 := eP0 hE q4.2 e5
 have q6 := (mY0 hE f).block q5.2.1 e6
 have hb := (okG hE hT hL f).block q5.2.1 e6
 have hk := ne0 e5
 have hnm := (gV0 hT e1).1
 injection h with h; injection h with h1 h2; subst h1 h2
 obtain ⟨pt, h3, h4⟩ := q3.2.2.sh
 obtain ⟨bt, h5, h6⟩ := hb.sh 0 (by omega)
 have hpl := q3.2.2.len
 have hbl := hb.len
 refine ⟨rfl, by dsimp only; omega, by dsimp only; omega, hb.sz, (if on then kwOn else kwFn) ++ [32] ++ sB t.text ++ [40] ++ sepB pt ++ [41, 58, 32] ++ k ++ [32] ++ bt ++ [10], by unfold qp0; simp [h3, h5, hk.1, hnm], ?_⟩
 have := cz0 hnm
 have := rM0 pt
 have h2 : (if on then kwOn else kwFn).length = 2 := by cases on <;> rfl
 simp only [List.length_append, List.length_cons, List.length_nil, h2]; omega
structure OkP (p : Prg) (k : Nat) : Prop where
 v0 : 0 <= p.version
 v1 : p.version < 9223372036854775808
 sl : p.states.length <= k
 fl : p.fns.length <= k
 st : ∃ a, cA0 p.states = some a /\ a.length <= 1000 * k
 ft : ∃ b, gz0 p.fns = some b /\ b.length <= 1000 * k
 fs : ∀ f ∈ p.fns, ∃ j, OkF f j /\ j <= k
theorem OkP.mono {p : Prg} {k k' : Nat} (h : OkP p k) (hk : k <= k') : OkP p k' :=
 ⟨h.v0, h.v1, by have := h.sl; omega, by have := h.fl; omega, by obtain ⟨t, h1, h2⟩ := h.st; exact ⟨t, h1, by omega⟩, by obtain ⟨t, h1, h2⟩ := h.ft; exact ⟨t, h1, by omega⟩,
  fun f hf => by obtain ⟨j, h1, h2⟩ := h.fs f hf; exact ⟨j, h1, by omega⟩⟩
theorem OkP.state {p : Prg} {k : Nat} (h : OkP p k) {x : Slo} (hx : ∃ t, iv0 x = some t /\ t.length <= 60) : OkP { p with states := p.states ++ [x] } (k + 1) := by
 obtain ⟨t, h1, h2⟩ := hx
 obtain ⟨a, h3, h4⟩ := h.st
 have := h.sl; have := h.fl
 refine ⟨h.v0, h.v1, by simp; omega, by dsimp only; omega, ⟨_, jg0 h3 h1, ?_⟩, by obtain ⟨t, h1, h2⟩ := h.ft; exact ⟨t, h1, by omega⟩, fun f hf => by obtain ⟨j, h1, h2⟩ := h.fs f hf; exact ⟨j, h1, by omega⟩⟩
 simp only [List.length_append, List.length_cons, List.length_nil, fi0]; omega
theorem OkP.fn {p : Prg} {k j : Nat} (h : OkP p k) {x : Fun} (hx : OkF x j) (hj : 1 <= j) : OkP { p with fns := p.fns ++ [x] } (k + j) := by
 obtain ⟨t, h1, h2⟩ := hx.sh
 obtain ⟨a, h3, h4⟩ := h.ft
 have := h.sl; have := h.fl
 refine ⟨h.v0, h.v1, by dsimp only; omega, by simp; omega, by obtain ⟨t, h1, h2⟩ := h.st; exact ⟨t, h1, by omega⟩, ⟨_, lg0 h3 h1, ?_⟩, fun f hf => ?_⟩
 ·simp only [List.length_append]; omega
 ·rcases List.mem_append.1 hf with hf | hf
  ·obtain ⟨j, h1, h2⟩ := h.fs f hf; exact ⟨j, h1, by omega⟩
  ·obtain rfl := List.mem_singleton.1 hf; exact ⟨j, hx, by omega⟩
theorem ms0 (hE : TEnd ts) (hT : ∀ n, mD0 (tk ts n)) (hL : ts.length < 1073741824) : ∀ {f : Nat} {p : Prg} {n k : Nat}, n < ts.length -> OkP p k -> ∀ {a : Prg} {m : Nat}, mg0 ts f p n = .ok (a, m) -> ∃ j, OkP a (k + j) /\ n + j < ts.length
 | 0, p, n, k, hn, ho, a, m, h => by simp [mg0] at h
 | f + 1, p, n, k, hn, ho, a, m, h => by
  rw [mg0] at h
  split at h
  ·injection h with h; injection h with h1 h2; subst h1; exact ⟨0, ho, hn⟩
  split at h
  ·rename_i hi
   have h0 := aw0 hE hn hi (by decide)
   obtain ⟨⟨s, n1⟩, e1, h⟩ := ag0 h
   obtain ⟨n2, e2, h⟩ := ag0 h
   have q1 := ig0 hE h0 e1
   have q2 := al0 hE q1.2 e2
   obtain ⟨j, h1, h2⟩ := ms0 hE hT hL q2.2 (ho.state (rE0 hT e1)) h
   exact ⟨1 + j, h1.mono (by omega), by dsimp only at *; omega⟩
  split at h
  ·rename_i hi
   have h0 := aw0 hE hn hi (by decide)
   obtain ⟨⟨s, n1⟩, e1, h⟩ := ag0 h
   have q1 := kx0 hE h0 e1
   obtain ⟨j, h1, h2⟩ := ms0 hE hT hL q1.2 (ho.fn (pFun_ok hE hT hL h0 e1) (by dsimp only at *; omega)) h
   exact ⟨(n1 - (n + 1)) + j, h1.mono (by omega), by dsimp only at *; omega⟩
  split at h
  ·rename_i hi
   have h0 := aw0 hE hn hi (by decide)
   obtain ⟨⟨s, n1⟩, e1, h⟩ := ag0 h
   have q1 := kx0 hE h0 e1
   obtain ⟨j, h1, h2⟩ := ms0 hE hT hL q1.2 (ho.fn (pFun_ok hE hT hL h0 e1) (by dsimp only at *; omega)) h
   exact ⟨(n1 - (n + 1)) + j, h1.mono (by omega), by dsimp only at *; omega⟩
  ·cases h
theorem read_ok {s : Bs} {p : Prg} (h : o50 s = .ok p) : OkP p 4097 := by
 rw [rG0] at h
 have hg := ku0 s
 unfold iZ0 at h
 cases hx : hM0 s with
 | bad a e => rw [hx] at h; cases h
 | ok ts =>
  have hT := qU0 hx
  rw [hx] at hg h
  obtain ⟨o, b, rfl, ho⟩ := hg
  have hE : TEnd (o ++ [⟨5, bS [], 0, b⟩]) := nW0.tend
  have hn : 0 < (o ++ [(⟨5, bS [], 0, b⟩ : Tok)]).length := by simp
  have hL : (o ++ [(⟨5, bS [], 0, b⟩ : Tok)]).length <= 4096 := by simp; omega
  generalize o ++ [(⟨5, bS [], 0, b⟩ : Tok)] = ts at *
  dsimp only at h
  cases hp : lE0 ts oM0 with
  | bad n e => rw [hp] at h; cases h
  | ok q =>
   obtain ⟨p', m⟩ := q
   rw [hp] at h
   injection h with h; subst h
   unfold lE0 at hp
   obtain ⟨n, e, hp⟩ := ag0 hp
   obtain ⟨⟨v, n1⟩, e1, hp⟩ := ag0 hp
   obtain ⟨n2, e2, hp⟩ := ag0 hp
   have q := k80 hE hn e
   have q1 := qX0 hE q.2 e1
   have q2 := al0 hE q1.2 e2
   have hv : 0 <= v.num /\ v.num < 9223372036854775808 := by
    unfold pInt at e1
    split at e1
    ·rename_i hk
     injection e1 with e1; injection e1 with h1 h2; subst h1
     exact (hT _).num hk
    ·cases e1
   obtain ⟨j, h1, h2⟩ := ms0 hE hT (by omega) q2.2 (k := 0) ⟨hv.1, hv.2, by simp, by simp, ⟨[], by rw [cA0.eq_def], by simp⟩, ⟨[], by rw [gz0.eq_def], by simp⟩, fun f hf => by cases hf⟩ hp
   exact h1.mono (by omega)
end Go.Am
end

section
namespace Go.Am
def qk0 (pl : Bool) (a b : Int) : Bool := !pl || decide (a = b)
mutual
def samE (pl : Bool) : Exq -> Exq -> Bool
 | .mk k op num text slot type args at_, y => decide (k = y.kind /\ op = y.op /\ num = y.num /\ text = y.text /\ slot = y.slot /\ type = y.type /\ args.length = y.args.length) && qk0 pl at_ y.at_ && samL pl args y.args
def samL (pl : Bool) : List Exq -> List Exq -> Bool
 | [], m => decide (m = [])
 | x :: l, m => match m with
  | [] => false
  | y :: m => samE pl x y && samL pl l m
end
mutual
def samS (pl : Bool) : Stm -> Stm -> Bool
 | .mk k name slot state num e body els at_, y => decide (k = y.kind /\ name = y.name /\ slot = y.slot /\ state = y.state /\ num = y.num /\ e.length = y.e.length) && qk0 pl at_ y.at_ && samL pl e y.e && samB pl body y.body && samB pl els y.els
def samB (pl : Bool) : List Stm -> List Stm -> Bool
 | [], m => decide (m = [])
 | x :: l, m => match m with
  | [] => false
  | y :: m => samS pl x y && samB pl l m
end
def kA0 (pl : Bool) (x y : Slo) : Bool := decide (x.name = y.name /\ x.type = y.type) && qk0 pl x.at_ y.at_
def cX0 (pl : Bool) : List Slo -> List Slo -> Bool
 | [], m => decide (m = [])
 | x :: l, m => match m with
  | [] => false
  | y :: m => kA0 pl x y && cX0 pl l m
def samF (pl : Bool) (x y : Fun) : Bool := decide (x.name = y.name /\ x.on = y.on /\ x.result = y.result /\ x.locals = y.locals) && qk0 pl x.at_ y.at_ && cX0 pl x.params y.params && samB pl x.body y.body
def nS0 (pl : Bool) : List Fun -> List Fun -> Bool
 | [], m => decide (m = [])
 | x :: l, m => match m with
  | [] => false
  | y :: m => samF pl x y && nS0 pl l m
def samP (pl : Bool) (p q : Prg) : Bool := decide (p.version = q.version) && cX0 pl p.states q.states && nS0 pl p.fns q.fns
theorem jD0 (pl : Bool) (a : Int) : qk0 pl a a = true := by simp [qk0]
section
variable {α : Type} (f : α -> α -> Bool) (g : List α -> List α -> Bool)
theorem nm0 (h0 : ∀ m, g [] m = decide (m = [])) (h1 : ∀ x l y m, g (x :: l) (y :: m) = (f x y && g l m)) (h2 : ∀ x l, g (x :: l) [] = false) :
  ∀ (l m : List α), g l m = true -> l.length = m.length /\ ∀ i (hi : i < l.length) (hj : i < m.length), f l[i] m[i] = true
 | [], m, h => by
  rw [h0, decide_eq_true_eq] at h; subst h
  exact ⟨rfl, fun i hi => by simp at hi⟩
 | x :: l, [], h => by rw [h2] at h; cases h
 | x :: l, y :: m, h => by
  rw [h1, Bool.and_eq_true] at h
  obtain ⟨a, b⟩ := nm0 h0 h1 h2 l m h.2
  refine ⟨by simp [a], fun i hi hj => ?_⟩
  cases i with
  | zero => exact h.1
  | succ i => exact b i (by simpa using hi) (by simpa using hj)
theorem ih0 (h0 : ∀ m, g [] m = decide (m = [])) (h1 : ∀ x l y m, g (x :: l) (y :: m) = (f x y && g l m)) : ∀ (l : List α), (∀ x ∈ l, f x x = true) -> g l l = true
 | [], _ => by rw [h0]; rfl
 | x :: l, h => by
  rw [h1, h x (by simp), ih0 h0 h1 l fun y hy => h y (by simp [hy])]; rfl
end
theorem rK0 {pl : Bool} {l m : List Exq} (h : samL pl l m = true) : l.length = m.length /\ ∀ i (hi : i < l.length) (hj : i < m.length), samE pl l[i] m[i] = true :=
 nm0 (samE pl) (samL pl) (fun m => by rw [samL.eq_def]) (fun x l y m => by rw [samL.eq_def]) (fun x l => by rw [samL.eq_def]) l m h
theorem samB_get {pl : Bool} {l m : List Stm} (h : samB pl l m = true) : l.length = m.length /\ ∀ i (hi : i < l.length) (hj : i < m.length), samS pl l[i] m[i] = true :=
 nm0 (samS pl) (samB pl) (fun m => by rw [samB.eq_def]) (fun x l y m => by rw [samB.eq_def]) (fun x l => by rw [samB.eq_def]) l m h
theorem ql0 {pl : Bool} {l m : List Slo} (h : cX0 pl l m = true) : l.length = m.length /\ ∀ i (hi : i < l.length) (hj : i < m.length), kA0 pl l[i] m[i] = true :=
 nm0 (kA0 pl) (cX0 pl) (fun m => by rw [cX0.eq_def]) (fun x l y m => by rw [cX0.eq_def]) (fun x l => by rw [cX0.eq_def]) l m h
theorem samFs_get {pl : Bool} {l m : List Fun} (h : nS0 pl l m = true) : l.length = m.length /\ ∀ i (hi : i < l.length) (hj : i < m.length), samF pl l[i] m[i] = true :=
 nm0 (samF pl) (nS0 pl) (fun m => by rw [nS0.eq_def]) (fun x l y m => by rw [nS0.eq_def]) (fun x l => by rw [nS0.eq_def]) l m h
theorem samE_refl (pl : Bool) : ∀ (n : Nat) (x : Exq), SizeOf.sizeOf x < n -> samE pl x x = true := by
 intro n
 induction n with
 | zero => intro x h; omega
 | succ n ih =>
  intro x h
  obtain ⟨k, op, num, text, slot, type, args, at_⟩ := x
  rw [samE.eq_def]
  dsimp only
  simp only [Exq.kind, Exq.op, Exq.num, Exq.text, Exq.slot, Exq.type, Exq.args, Exq.at_, and_self, decide_true, Bool.true_and, jD0]
  exact ih0 (samE pl) (samL pl) (fun m => by rw [samL.eq_def]) (fun x l y m => by rw [samL.eq_def]) args fun x hx => ih x (by
   have := List.sizeOf_lt_of_mem hx
   simp only [Exq.mk.sizeOf_spec] at h; omega)
theorem samS_refl (pl : Bool) : ∀ (n : Nat) (x : Stm), SizeOf.sizeOf x < n -> samS pl x x = true := by
 intro n
 induction n with
 | zero => intro x h; omega
 | succ n ih =>
  intro x h
  obtain ⟨k, name, slot, state, num, e, body, els, at_⟩ := x
  rw [samS.eq_def]
  dsimp only
  simp only [Stm.kind, Stm.name, Stm.slot, Stm.state, Stm.num, Stm.e, Stm.body, Stm.els, Stm.at_, and_self, decide_true, Bool.true_and, jD0]
  have r := fun (l : List Stm) (hl : SizeOf.sizeOf l < n) => ih0 (samS pl) (samB pl) (fun m => by rw [samB.eq_def]) (fun x l y m => by rw [samB.eq_def]) l fun x hx => ih x (by
   have := List.sizeOf_lt_of_mem hx; omega)
  simp only [Stm.mk.sizeOf_spec] at h
  rw [ih0 (samE pl) (samL pl) (fun m => by rw [samL.eq_def]) (fun x l y m => by rw [samL.eq_def]) e fun x hx => samE_refl pl _ x (Nat.lt_succ_self _), r body (by omega), r els (by omega)]
  rfl
theorem lf0 (pl : Bool) (l : List Slo) : cX0 pl l l = true :=
 ih0 (kA0 pl) (cX0 pl) (fun m => by rw [cX0.eq_def]) (fun x l y m => by rw [cX0.eq_def]) l fun x _ => by simp [kA0, jD0]
theorem samP_refl (pl : Bool) (p : Prg) : samP pl p p = true := by
 unfold samP
 rw [lf0, ih0 (samF pl) (nS0 pl) (fun m => by rw [nS0.eq_def]) (fun x l y m => by rw [nS0.eq_def]) p.fns fun x _ => by
  unfold samF
  rw [lf0, ih0 (samS pl) (samB pl) (fun m => by rw [samB.eq_def]) (fun x l y m => by rw [samB.eq_def]) x.body fun y _ => samS_refl pl _ y (Nat.lt_succ_self _), jD0]
  simp]
 simp
theorem nh0 : ∀ {l : List Exq}, plL l = true -> ∀ x ∈ l, plE x = true
 | [], _, x, hx => by simp at hx
 | y :: l, h, x, hx => by
  rw [plL, Bool.and_eq_true] at h
  rcases List.mem_cons.1 hx with rfl | hx
  ·exact h.1
  ·exact nh0 h.2 x hx
theorem plB_mem : ∀ {l : List Stm}, plB l = true -> ∀ x ∈ l, plS x = true
 | [], _, x, hx => by simp at hx
 | y :: l, h, x, hx => by
  rw [plB, Bool.and_eq_true] at h
  rcases List.mem_cons.1 hx with rfl | hx
  ·exact h.1
  ·exact plB_mem h.2 x hx
theorem plE_args {x : Exq} (h : plE x = true) : x.args.length < 1073741824 /\ plL x.args = true := by
 obtain ⟨k, op, num, text, slot, type, args, at_⟩ := x
 rw [plE, Bool.and_eq_true, decide_eq_true_eq] at h
 exact ⟨h.1.2, h.2⟩
theorem plS_parts {x : Stm} (h : plS x = true) : plL x.e = true /\ x.e.length < 1073741824 /\ x.body.length < 1073741824 /\ x.els.length < 1073741824 /\ plB x.body = true /\ plB x.els = true := by
 obtain ⟨k, name, slot, state, num, e, body, els, at_⟩ := x
 rw [plS] at h
 simp only [Bool.and_eq_true, decide_eq_true_eq] at h
 exact ⟨h.1.1.1, h.1.1.2.1, h.1.1.2.2.1, h.1.1.2.2.2, h.1.2, h.2⟩
theorem mu0 {pl : Bool} {a b : Int} (h : qk0 pl a b = true) : pl = false \/ a = b := by
 unfold qk0 at h
 cases pl
 ·exact .inl rfl
 ·exact .inr (by simpa using h)
theorem sC0 {pl : Bool} {x y : Exq} (h : samE pl x y = true) : (x.kind = y.kind /\ x.op = y.op /\ x.num = y.num /\ x.text = y.text /\ x.slot = y.slot /\ x.type = y.type /\ x.args.length = y.args.length) /\ (pl = false \/ x.at_ = y.at_) /\ samL pl x.args y.args = true := by
 obtain ⟨k, op, num, text, slot, type, args, at_⟩ := x
 rw [samE.eq_def] at h
 simp only [Bool.and_eq_true, decide_eq_true_eq] at h
 exact ⟨h.1.1, mu0 h.1.2, h.2⟩
theorem sE0 {pl : Bool} {x y : Stm} (h : samS pl x y = true) : (x.kind = y.kind /\ x.name = y.name /\ x.slot = y.slot /\ x.state = y.state /\ x.num = y.num /\ x.e.length = y.e.length) /\ (pl = false \/ x.at_ = y.at_) /\ samL pl x.e y.e = true /\ samB pl x.body y.body = true /\ samB pl x.els y.els = true := by
 obtain ⟨k, name, slot, state, num, e, body, els, at_⟩ := x
 rw [samS.eq_def] at h
 simp only [Bool.and_eq_true, decide_eq_true_eq] at h
 exact ⟨h.1.1.1.1, mu0 h.1.1.1.2, h.1.1.2, h.1.2, h.2⟩
theorem pc0 {pl : Bool} {x y : Slo} (h : kA0 pl x y = true) : (x.name = y.name /\ x.type = y.type) /\ (pl = false \/ x.at_ = y.at_) := by
 unfold kA0 at h
 simp only [Bool.and_eq_true, decide_eq_true_eq] at h
 exact ⟨h.1, mu0 h.2⟩
theorem sD0 {pl : Bool} {x y : Fun} (h : samF pl x y = true) : (x.name = y.name /\ x.on = y.on /\ x.result = y.result /\ x.locals = y.locals) /\ (pl = false \/ x.at_ = y.at_) /\ cX0 pl x.params y.params = true /\ samB pl x.body y.body = true := by
 unfold samF at h
 simp only [Bool.and_eq_true, decide_eq_true_eq] at h
 exact ⟨h.1.1.1, mu0 h.1.1.2, h.1.2, h.2⟩
end Go.Am
end
