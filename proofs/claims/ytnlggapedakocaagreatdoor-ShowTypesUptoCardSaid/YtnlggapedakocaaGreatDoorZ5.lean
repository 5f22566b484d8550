/- ShowTypes of the given program, part 5 of 5 of the proof: for all arguments within the bound the law answers true, and each argument reads behind the call as before. Conditions: those of the given card. -/
import Derived.Test.YtnlggapedakocaaGreatDoorZ4
import Derived.Test.YtnlggapedakocaaGreatDoorCards
set_option maxHeartbeats 1600000
set_option linter.all false
set_option linter.unusedVariables false
set_option linter.unusedSimpArgs false
set_option linter.unnecessarySimpa false
section
namespace Go.Am
set_option maxRecDepth 100000
attribute [local irreducible] vc vcIs vcI vcOp vcD vcDp vcDR vcT vcAR b30 aU0 panD neG ne pv J bV0 b00 b90 a90 evK evsK nthK objK boxK rowK bD0 intK strK aggK fnK ifcK at0 av0 ldK ldaK iaK srcK stK appK appD ce0 pvK bU0 aX0 bT0 bv0 slAV bH0
variable {ts : List Tok} {n : Nat}
abbrev stmsV (l : List Stm) : V := .lst (l.map Stm.cells)
set_option maxHeartbeats 3200000 in
theorem iM0 (hE : TEnd ts) (hl : ts.length < 2 ^ 40) (F d : Nat) (hd : d <= 24)
  (IHk : ∀ g, g < F -> ∀ d n, d <= 25 -> n < ts.length -> (cF0 ts g d n).live -> J prog b40 [.bp (.e 0) 0, vI d] (pObs ts n) (· = pAns ts stmsV (cF0 ts g d n)))
  (hn : n < ts.length) (hlive : (pStm ts F d n).live) : J prog bh0 [.bp (.e 0) 0, vI d] (pObs ts n) (· = pAns ts Stm.V (pStm ts F d n)) := by
 obtain _ | F := F
 ·rw [pStm] at hlive; exact absurd rfl hlive
 generalize hw : pStm ts (F + 1) d n = R at *
 rw [pStm_eq, pStmV] at hw
 refine aq0 gn0 (by simp [pObs]) ?_
 simp +contextual (maxSteps := 2000000) (disch := omega) [-Int.not_lt, -Int.not_le, -Nat.not_lt, -Nat.not_le, sx, c30, pObs, hpE]
 refine aa0 [.e 0] rfl rfl (by simp) ?_
 simp
 have hpO := aT0 hn
 try simp [pObs, a00, aE0, aD0, az0] at hpO
 refine ab0 9 hpO (by simp) ?_
 clear hpO
 simp +contextual (maxSteps := 2000000) (disch := omega) [-Int.not_lt, -Int.not_le, -Nat.not_lt, -Nat.not_le, sx]
 refine aa0 [.e 0] rfl rfl (by simp) ?_
 simp
 have hpO := ag0 hn hl 1 fC0
 try simp [pObs, a00, aE0, aD0, az0] at hpO
 refine ab0 18 hpO (by simp) ?_
 clear hpO
 cases hkwLet : isT ts n 1 fC0 with
 | true =>
  have h0 := aM0 hE hn hkwLet (by decide)
  rw [hkwLet] at hw
  simp only [if_true] at hw
  simp +contextual (maxSteps := 2000000) (disch := omega) [-Int.not_lt, -Int.not_le, -Nat.not_lt, -Nat.not_le, sx]
  have hJ := e50 hl h0 1 (tk ts n).at_
  rcases hx1 : ed0 ts (n + 1) with ⟨t1, n1⟩ | ⟨a, e⟩
  rotate_left
  ·rw [hx1] at hJ hw
   simp only [pAns, ar0, LxR.bind] at hJ hw
   subst hw
   refine aa0 [.l 2 0, .l 5 0, .e 0] rfl rfl (by simp) ?_
   simp
   have hpO := hJ
   try simp [pObs, a00, aE0, aD0, az0] at hpO
   refine af0 hpO ?_
   clear hpO
   simp +contextual (maxSteps := 2000000) (disch := omega) [-Int.not_lt, -Int.not_le, -Nat.not_lt, -Nat.not_le, sx]
   refine endP ?_
   simp +contextual (maxSteps := 2000000) (disch := omega) [-Int.not_lt, -Int.not_le, -Nat.not_lt, -Nat.not_le, sx, pObs, pAns]
  have q1 := cG0 hE h0 hx1
  rw [hx1] at hJ hw
  simp only [pAns, ar0, LxR.bind] at hJ hw
  refine aa0 [.l 2 0, .l 5 0, .e 0] rfl rfl (by simp) ?_
  simp
  have hpO := hJ
  try simp [pObs, a00, aE0, aD0, az0] at hpO
  refine ab0 20 hpO (by simp) ?_
  clear hpO
  simp +contextual (maxSteps := 2000000) (disch := omega) [-Int.not_lt, -Int.not_le, -Nat.not_lt, -Nat.not_le, sx]
  have hJ := am0 q1.2 hl [61]
  rcases hx2 : ba0 ts n1 [61] with n2 | ⟨a, e⟩
  rotate_left
  ·rw [hx2] at hJ hw
   simp only [pAns, ar0, LxR.bind] at hJ hw
   subst hw
   refine aa0 [.e 0] rfl rfl (by simp) ?_
   simp
   have hpO := hJ
   try simp [pObs, a00, aE0, aD0, az0] at hpO
   refine af0 hpO ?_
   clear hpO
   simp +contextual (maxSteps := 2000000) (disch := omega) [-Int.not_lt, -Int.not_le, -Nat.not_lt, -Nat.not_le, sx]
   refine endP ?_
   simp +contextual (maxSteps := 2000000) (disch := omega) [-Int.not_lt, -Int.not_le, -Nat.not_lt, -Nat.not_le, sx, pObs, pAns]
  have q2 := aw0 hE q1.2 hx2
  rw [hx2] at hJ hw
  simp only [pAns, ar0, LxR.bind] at hJ hw
  refine aa0 [.e 0] rfl rfl (by simp) ?_
  simp
  have hpO := hJ
  try simp [pObs, a00, aE0, aD0, az0] at hpO
  refine ab0 22 hpO (by simp) ?_
  clear hpO
  simp +contextual (maxSteps := 2000000) (disch := omega) [-Int.not_lt, -Int.not_le, -Nat.not_lt, -Nat.not_le, sx]
  have hlv := hlive
  rw [<- hw] at hlv
  have hJ := cm0 hE hl q2.2 F d hd [59] 1 t1.text (tk ts n).at_ (LxR.aC0 hlv).1
  rcases hx3 : pVal ts F d [59] n2 with ⟨x3, n3⟩ | ⟨a, e⟩
  rotate_left
  ·rw [hx3] at hJ hw
   simp only [pAns, ar0, LxR.bind] at hJ hw
   subst hw
   refine aa0 [.l 5 0, .l 2 0, .l 3 0, .e 0] rfl rfl (by simp) ?_
   simp
   have hpO := hJ
   try simp [pObs, aD0, az0, ik0, aE0] at hpO
   refine cw0 hpO ?_
   clear hpO hJ
   intro y
   rcases y with _ | y
   all_goals
    simp +contextual (maxSteps := 2000000) (disch := omega) [-Int.not_lt, -Int.not_le, -Nat.not_lt, -Nat.not_le, sx, optV, ik0, aD0, aE0]
    refine endP ?_
    simp +contextual (maxSteps := 2000000) (disch := omega) [-Int.not_lt, -Int.not_le, -Nat.not_lt, -Nat.not_le, sx, pObs, pAns]
  have q3 := h60 hE q2.2 hx3
  rw [hx3] at hJ hw
  simp only [pAns, ar0, LxR.bind] at hJ hw
  refine aa0 [.l 5 0, .l 2 0, .l 3 0, .e 0] rfl rfl (by simp) ?_
  simp
  have hpO := hJ
  try simp [pObs, a00, aE0, aD0, az0] at hpO
  refine ab0 24 hpO (by simp) ?_
  clear hpO
  simp +contextual (maxSteps := 2000000) (disch := omega) [-Int.not_lt, -Int.not_le, -Nat.not_lt, -Nat.not_le, sx]
  subst hw
  refine endR _ _ (Wk.refl _ _) [] (by simp) ?_
  rw [pAns, stm0, Stm.V, Stm.ac0 (.mk _ _ _ _ _ _ _ _ _)]
  simp +contextual (maxSteps := 2000000) (disch := omega) [-Int.not_lt, -Int.not_le, -Nat.not_lt, -Nat.not_le, sx, pObs, Stm.kind, Stm.name, Stm.slot, Stm.state, Stm.num, Stm.e, Stm.body, Stm.els, Stm.at_]
 | false =>
 rw [hkwLet] at hw
 simp only [Bool.false_eq_true, if_false] at hw
 simp +contextual (maxSteps := 2000000) (disch := omega) [-Int.not_lt, -Int.not_le, -Nat.not_lt, -Nat.not_le, sx]
 refine aa0 [.e 0] rfl rfl (by simp) ?_
 simp
 have hpO := ag0 hn hl 1 eC0
 try simp [pObs, a00, aE0, aD0, az0] at hpO
 refine ab0 27 hpO (by simp) ?_
 clear hpO
 cases hkwSet : isT ts n 1 eC0 with
 | true =>
  have h0 := aM0 hE hn hkwSet (by decide)
  rw [hkwSet] at hw
  simp only [if_true] at hw
  simp +contextual (maxSteps := 2000000) (disch := omega) [-Int.not_lt, -Int.not_le, -Nat.not_lt, -Nat.not_le, sx]
  have hJ := e50 hl h0 2 (tk ts n).at_
  rcases hx1 : ed0 ts (n + 1) with ⟨t1, n1⟩ | ⟨a, e⟩
  rotate_left
  ·rw [hx1] at hJ hw
   simp only [pAns, ar0, LxR.bind] at hJ hw
   subst hw
   refine aa0 [.l 2 0, .l 5 0, .e 0] rfl rfl (by simp) ?_
   simp
   have hpO := hJ
   try simp [pObs, a00, aE0, aD0, az0] at hpO
   refine af0 hpO ?_
   clear hpO
   simp +contextual (maxSteps := 2000000) (disch := omega) [-Int.not_lt, -Int.not_le, -Nat.not_lt, -Nat.not_le, sx]
   refine endP ?_
   simp +contextual (maxSteps := 2000000) (disch := omega) [-Int.not_lt, -Int.not_le, -Nat.not_lt, -Nat.not_le, sx, pObs, pAns]
  have q1 := cG0 hE h0 hx1
  rw [hx1] at hJ hw
  simp only [pAns, ar0, LxR.bind] at hJ hw
  refine aa0 [.l 2 0, .l 5 0, .e 0] rfl rfl (by simp) ?_
  simp
  have hpO := hJ
  try simp [pObs, a00, aE0, aD0, az0] at hpO
  refine ab0 29 hpO (by simp) ?_
  clear hpO
  simp +contextual (maxSteps := 2000000) (disch := omega) [-Int.not_lt, -Int.not_le, -Nat.not_lt, -Nat.not_le, sx]
  refine aa0 [.e 0] rfl rfl (by simp) ?_
  simp
  have hpO := ag0 q1.2 hl 4 [91]
  try simp [pObs, a00, aE0, aD0, az0] at hpO
  refine ab0 31 hpO (by simp) ?_
  clear hpO
  cases hb : isT ts n1 4 [91] with
  | true =>
   have h00 := aM0 hE q1.2 hb (by decide)
   rw [hb] at hw
   simp only [if_true] at hw
   simp +contextual (maxSteps := 2000000) (disch := omega) [-Int.not_lt, -Int.not_le, -Nat.not_lt, -Nat.not_le, sx]
   have hlv := hlive
   rw [<- hw] at hlv
   have hJ := cm0 hE hl h00 F d hd [93] 2 t1.text (tk ts n).at_ (LxR.aC0 hlv).1
   rcases hx2 : pVal ts F d [93] (n1 + 1) with ⟨x2, n2⟩ | ⟨a, e⟩
   rotate_left
   ·rw [hx2] at hJ hw
    simp only [pAns, ar0, LxR.bind] at hJ hw
    subst hw
    refine aa0 [.l 5 0, .l 2 0, .l 3 0, .e 0] rfl rfl (by simp) ?_
    simp
    have hpO := hJ
    try simp [pObs, aD0, az0, ik0, aE0] at hpO
    refine cw0 hpO ?_
    clear hpO hJ
    intro y
    rcases y with _ | y
    all_goals
     simp +contextual (maxSteps := 2000000) (disch := omega) [-Int.not_lt, -Int.not_le, -Nat.not_lt, -Nat.not_le, sx, optV, ik0, aD0, aE0]
     refine endP ?_
     simp +contextual (maxSteps := 2000000) (disch := omega) [-Int.not_lt, -Int.not_le, -Nat.not_lt, -Nat.not_le, sx, pObs, pAns]
   have q2 := h60 hE h00 hx2
   rw [hx2] at hJ hw
   simp only [pAns, ar0, LxR.bind] at hJ hw
   refine aa0 [.l 5 0, .l 2 0, .l 3 0, .e 0] rfl rfl (by simp) ?_
   simp
   have hpO := hJ
   try simp [pObs, a00, aE0, aD0, az0] at hpO
   refine ab0 33 hpO (by simp) ?_
   clear hpO
   simp +contextual (maxSteps := 2000000) (disch := omega) [-Int.not_lt, -Int.not_le, -Nat.not_lt, -Nat.not_le, sx]
   have hJ := am0 q2.2 hl [61]
   rcases hx3 : ba0 ts n2 [61] with n3 | ⟨a, e⟩
   rotate_left
   ·rw [hx3] at hJ hw
    simp only [pAns, ar0, LxR.bind] at hJ hw
    subst hw
    refine aa0 [.e 0] rfl rfl (by simp) ?_
    simp
    have hpO := hJ
    try simp [pObs, a00, aE0, aD0, az0] at hpO
    refine af0 hpO ?_
    clear hpO
    simp +contextual (maxSteps := 2000000) (disch := omega) [-Int.not_lt, -Int.not_le, -Nat.not_lt, -Nat.not_le, sx]
    refine endP ?_
    simp +contextual (maxSteps := 2000000) (disch := omega) [-Int.not_lt, -Int.not_le, -Nat.not_lt, -Nat.not_le, sx, pObs, pAns]
   have q3 := aw0 hE q2.2 hx3
   rw [hx3] at hJ hw
   simp only [pAns, ar0, LxR.bind] at hJ hw
   refine aa0 [.e 0] rfl rfl (by simp) ?_
   simp
   have hpO := hJ
   try simp [pObs, a00, aE0, aD0, az0] at hpO
   refine ab0 35 hpO (by simp) ?_
   clear hpO
   simp +contextual (maxSteps := 2000000) (disch := omega) [-Int.not_lt, -Int.not_le, -Nat.not_lt, -Nat.not_le, sx]
   have hlv := hlive
   rw [<- hw] at hlv
   have hJ := mY0 hE hl q3.2 F d hd [59] 2 t1.text (tk ts n).at_ x2 (LxR.aC0 hlv).1
   rcases hx4 : pVal ts F d [59] n3 with ⟨x4, n4⟩ | ⟨a, e⟩
   rotate_left
   ·rw [hx4] at hJ hw
    simp only [pAns, ar0, LxR.bind] at hJ hw
    subst hw
    refine aa0 [.l 5 0, .l 2 0, .l 3 0, .e 0, .l 33 0] rfl rfl (by simp) ?_
    simp
    have hpO := hJ
    try simp [pObs, aD0, az0, ik0, aE0] at hpO
    refine cw0 hpO ?_
    clear hpO hJ
    intro y
    rcases y with _ | y
    all_goals
     simp +contextual (maxSteps := 2000000) (disch := omega) [-Int.not_lt, -Int.not_le, -Nat.not_lt, -Nat.not_le, sx, optV, ik0, aD0, aE0]
     refine endP ?_
     simp +contextual (maxSteps := 2000000) (disch := omega) [-Int.not_lt, -Int.not_le, -Nat.not_lt, -Nat.not_le, sx, pObs, pAns]
   have q4 := h60 hE q3.2 hx4
   rw [hx4] at hJ hw
   simp only [pAns, ar0, LxR.bind] at hJ hw
   refine aa0 [.l 5 0, .l 2 0, .l 3 0, .e 0, .l 33 0] rfl rfl (by simp) ?_
   simp
   have hpO := hJ
   try simp [pObs, a00, aE0, aD0, az0] at hpO
   refine ab0 37 hpO (by simp) ?_
   clear hpO
   simp +contextual (maxSteps := 2000000) (disch := omega) [-Int.not_lt, -Int.not_le, -Nat.not_lt, -Nat.not_le, sx]
   subst hw
   refine endR _ _ (Wk.refl _ _) [] (by simp) ?_
   rw [pAns, stm0, Stm.V, Stm.ac0 (.mk _ _ _ _ _ _ _ _ _)]
   simp +contextual (maxSteps := 2000000) (disch := omega) [-Int.not_lt, -Int.not_le, -Nat.not_lt, -Nat.not_le, sx, pObs, Stm.kind, Stm.name, Stm.slot, Stm.state, Stm.num, Stm.e, Stm.body, Stm.els, Stm.at_]
  | false =>
  rw [hb] at hw
  simp only [Bool.false_eq_true, if_false] at hw
  simp +contextual (maxSteps := 2000000) (disch := omega) [-Int.not_lt, -Int.not_le, -Nat.not_lt, -Nat.not_le, sx]
  have hJ := am0 q1.2 hl [61]
  rcases hx2 : ba0 ts n1 [61] with n2 | ⟨a, e⟩
  rotate_left
  ·rw [hx2] at hJ hw
   simp only [pAns, ar0, LxR.bind] at hJ hw
   subst hw
   refine aa0 [.e 0] rfl rfl (by simp) ?_
   simp
   have hpO := hJ
   try simp [pObs, a00, aE0, aD0, az0] at hpO
   refine af0 hpO ?_
   clear hpO
   simp +contextual (maxSteps := 2000000) (disch := omega) [-Int.not_lt, -Int.not_le, -Nat.not_lt, -Nat.not_le, sx]
   refine endP ?_
   simp +contextual (maxSteps := 2000000) (disch := omega) [-Int.not_lt, -Int.not_le, -Nat.not_lt, -Nat.not_le, sx, pObs, pAns]
  have q2 := aw0 hE q1.2 hx2
  rw [hx2] at hJ hw
  simp only [pAns, ar0, LxR.bind] at hJ hw
  refine aa0 [.e 0] rfl rfl (by simp) ?_
  simp
  have hpO := hJ
  try simp [pObs, a00, aE0, aD0, az0] at hpO
  refine ab0 35 hpO (by simp) ?_
  clear hpO
  simp +contextual (maxSteps := 2000000) (disch := omega) [-Int.not_lt, -Int.not_le, -Nat.not_lt, -Nat.not_le, sx]
  have hlv := hlive
  rw [<- hw] at hlv
  have hJ := cm0 hE hl q2.2 F d hd [59] 2 t1.text (tk ts n).at_ (LxR.aC0 hlv).1
  rcases hx3 : pVal ts F d [59] n2 with ⟨x3, n3⟩ | ⟨a, e⟩
  rotate_left
  ·rw [hx3] at hJ hw
   simp only [pAns, ar0, LxR.bind] at hJ hw
   subst hw
   refine aa0 [.l 5 0, .l 2 0, .l 3 0, .e 0] rfl rfl (by simp) ?_
   simp
   have hpO := hJ
   try simp [pObs, aD0, az0, ik0, aE0] at hpO
   refine cw0 hpO ?_
   clear hpO hJ
   intro y
   rcases y with _ | y
   all_goals
    simp +contextual (maxSteps := 2000000) (disch := omega) [-Int.not_lt, -Int.not_le, -Nat.not_lt, -Nat.not_le, sx, optV, ik0, aD0, aE0]
    refine endP ?_
    simp +contextual (maxSteps := 2000000) (disch := omega) [-Int.not_lt, -Int.not_le, -Nat.not_lt, -Nat.not_le, sx, pObs, pAns]
  have q3 := h60 hE q2.2 hx3
  rw [hx3] at hJ hw
  simp only [pAns, ar0, LxR.bind] at hJ hw
  refine aa0 [.l 5 0, .l 2 0, .l 3 0, .e 0] rfl rfl (by simp) ?_
  simp
  have hpO := hJ
  try simp [pObs, a00, aE0, aD0, az0] at hpO
  refine ab0 37 hpO (by simp) ?_
  clear hpO
  simp +contextual (maxSteps := 2000000) (disch := omega) [-Int.not_lt, -Int.not_le, -Nat.not_lt, -Nat.not_le, sx]
  subst hw
  refine endR _ _ (Wk.refl _ _) [] (by simp) ?_
  rw [pAns, stm0, Stm.V, Stm.ac0 (.mk _ _ _ _ _ _ _ _ _)]
  simp +contextual (maxSteps := 2000000) (disch := omega) [-Int.not_lt, -Int.not_le, -Nat.not_lt, -Nat.not_le, sx, pObs, Stm.kind, Stm.name, Stm.slot, Stm.state, Stm.num, Stm.e, Stm.body, Stm.els, Stm.at_]
 | false =>
 rw [hkwSet] at hw
 simp only [Bool.false_eq_true, if_false] at hw
 simp +contextual (maxSteps := 2000000) (disch := omega) [-Int.not_lt, -Int.not_le, -Nat.not_lt, -Nat.not_le, sx]
 refine aa0 [.e 0] rfl rfl (by simp) ?_
 simp
 have hpO := ag0 hn hl 1 fz0
 try simp [pObs, a00, aE0, aD0, az0] at hpO
 refine ab0 40 hpO (by simp) ?_
 clear hpO
 cases hkwDel : isT ts n 1 fz0 with
 | true =>
  have h0 := aM0 hE hn hkwDel (by decide)
  rw [hkwDel] at hw
  simp only [if_true] at hw
  simp +contextual (maxSteps := 2000000) (disch := omega) [-Int.not_lt, -Int.not_le, -Nat.not_lt, -Nat.not_le, sx]
  have hJ := e50 hl h0 3 (tk ts n).at_
  rcases hx1 : ed0 ts (n + 1) with ⟨t1, n1⟩ | ⟨a, e⟩
  rotate_left
  ·rw [hx1] at hJ hw
   simp only [pAns, ar0, LxR.bind] at hJ hw
   subst hw
   refine aa0 [.l 2 0, .l 5 0, .e 0] rfl rfl (by simp) ?_
   simp
   have hpO := hJ
   try simp [pObs, a00, aE0, aD0, az0] at hpO
   refine af0 hpO ?_
   clear hpO
   simp +contextual (maxSteps := 2000000) (disch := omega) [-Int.not_lt, -Int.not_le, -Nat.not_lt, -Nat.not_le, sx]
   refine endP ?_
   simp +contextual (maxSteps := 2000000) (disch := omega) [-Int.not_lt, -Int.not_le, -Nat.not_lt, -Nat.not_le, sx, pObs, pAns]
  have q1 := cG0 hE h0 hx1
  rw [hx1] at hJ hw
  simp only [pAns, ar0, LxR.bind] at hJ hw
  refine aa0 [.l 2 0, .l 5 0, .e 0] rfl rfl (by simp) ?_
  simp
  have hpO := hJ
  try simp [pObs, a00, aE0, aD0, az0] at hpO
  refine ab0 42 hpO (by simp) ?_
  clear hpO
  simp +contextual (maxSteps := 2000000) (disch := omega) [-Int.not_lt, -Int.not_le, -Nat.not_lt, -Nat.not_le, sx]
  have hJ := am0 q1.2 hl [91]
  rcases hx2 : ba0 ts n1 [91] with n2 | ⟨a, e⟩
  rotate_left
  ·rw [hx2] at hJ hw
   simp only [pAns, ar0, LxR.bind] at hJ hw
   subst hw
   refine aa0 [.e 0] rfl rfl (by simp) ?_
   simp
   have hpO := hJ
   try simp [pObs, a00, aE0, aD0, az0] at hpO
   refine af0 hpO ?_
   clear hpO
   simp +contextual (maxSteps := 2000000) (disch := omega) [-Int.not_lt, -Int.not_le, -Nat.not_lt, -Nat.not_le, sx]
   refine endP ?_
   simp +contextual (maxSteps := 2000000) (disch := omega) [-Int.not_lt, -Int.not_le, -Nat.not_lt, -Nat.not_le, sx, pObs, pAns]
  have q2 := aw0 hE q1.2 hx2
  rw [hx2] at hJ hw
  simp only [pAns, ar0, LxR.bind] at hJ hw
  refine aa0 [.e 0] rfl rfl (by simp) ?_
  simp
  have hpO := hJ
  try simp [pObs, a00, aE0, aD0, az0] at hpO
  refine ab0 44 hpO (by simp) ?_
  clear hpO
  simp +contextual (maxSteps := 2000000) (disch := omega) [-Int.not_lt, -Int.not_le, -Nat.not_lt, -Nat.not_le, sx]
  have hlv := hlive
  rw [<- hw] at hlv
  have hJ := cm0 hE hl q2.2 F d hd [93] 3 t1.text (tk ts n).at_ (LxR.aC0 hlv).1
  rcases hx3 : pVal ts F d [93] n2 with ⟨x3, n3⟩ | ⟨a, e⟩
  rotate_left
  ·rw [hx3] at hJ hw
   simp only [pAns, ar0, LxR.bind] at hJ hw
   subst hw
   refine aa0 [.l 5 0, .l 2 0, .l 3 0, .e 0] rfl rfl (by simp) ?_
   simp
   have hpO := hJ
   try simp [pObs, aD0, az0, ik0, aE0] at hpO
   refine cw0 hpO ?_
   clear hpO hJ
   intro y
   rcases y with _ | y
   all_goals
    simp +contextual (maxSteps := 2000000) (disch := omega) [-Int.not_lt, -Int.not_le, -Nat.not_lt, -Nat.not_le, sx, optV, ik0, aD0, aE0]
    refine endP ?_
    simp +contextual (maxSteps := 2000000) (disch := omega) [-Int.not_lt, -Int.not_le, -Nat.not_lt, -Nat.not_le, sx, pObs, pAns]
  have q3 := h60 hE q2.2 hx3
  rw [hx3] at hJ hw
  simp only [pAns, ar0, LxR.bind] at hJ hw
  refine aa0 [.l 5 0, .l 2 0, .l 3 0, .e 0] rfl rfl (by simp) ?_
  simp
  have hpO := hJ
  try simp [pObs, a00, aE0, aD0, az0] at hpO
  refine ab0 46 hpO (by simp) ?_
  clear hpO
  simp +contextual (maxSteps := 2000000) (disch := omega) [-Int.not_lt, -Int.not_le, -Nat.not_lt, -Nat.not_le, sx]
  have hJ := am0 q3.2 hl [59]
  rcases hx4 : ba0 ts n3 [59] with n4 | ⟨a, e⟩
  rotate_left
  ·rw [hx4] at hJ hw
   simp only [pAns, ar0, LxR.bind] at hJ hw
   subst hw
   refine aa0 [.e 0] rfl rfl (by simp) ?_
   simp
   have hpO := hJ
   try simp [pObs, a00, aE0, aD0, az0] at hpO
   refine af0 hpO ?_
   clear hpO
   simp +contextual (maxSteps := 2000000) (disch := omega) [-Int.not_lt, -Int.not_le, -Nat.not_lt, -Nat.not_le, sx]
   refine endP ?_
   simp +contextual (maxSteps := 2000000) (disch := omega) [-Int.not_lt, -Int.not_le, -Nat.not_lt, -Nat.not_le, sx, pObs, pAns]
  have q4 := aw0 hE q3.2 hx4
  rw [hx4] at hJ hw
  simp only [pAns, ar0, LxR.bind] at hJ hw
  refine aa0 [.e 0] rfl rfl (by simp) ?_
  simp
  have hpO := hJ
  try simp [pObs, a00, aE0, aD0, az0] at hpO
  refine ab0 48 hpO (by simp) ?_
  clear hpO
  simp +contextual (maxSteps := 2000000) (disch := omega) [-Int.not_lt, -Int.not_le, -Nat.not_lt, -Nat.not_le, sx]
  subst hw
  refine endR _ _ (Wk.refl _ _) [] (by simp) ?_
  rw [pAns, stm0, Stm.V, Stm.ac0 (.mk _ _ _ _ _ _ _ _ _)]
  simp +contextual (maxSteps := 2000000) (disch := omega) [-Int.not_lt, -Int.not_le, -Nat.not_lt, -Nat.not_le, sx, pObs, Stm.kind, Stm.name, Stm.slot, Stm.state, Stm.num, Stm.e, Stm.body, Stm.els, Stm.at_]
 | false =>
 rw [hkwDel] at hw
 simp only [Bool.false_eq_true, if_false] at hw
 simp +contextual (maxSteps := 2000000) (disch := omega) [-Int.not_lt, -Int.not_le, -Nat.not_lt, -Nat.not_le, sx]
 refine aa0 [.e 0] rfl rfl (by simp) ?_
 simp
 have hpO := ag0 hn hl 1 kwIf
 try simp [pObs, a00, aE0, aD0, az0] at hpO
 refine ab0 51 hpO (by simp) ?_
 clear hpO
 cases hkwIf : isT ts n 1 kwIf with
 | true =>
  have h0 := aM0 hE hn hkwIf (by decide)
  rw [hkwIf] at hw
  simp only [if_true] at hw
  simp +contextual (maxSteps := 2000000) (disch := omega) [-Int.not_lt, -Int.not_le, -Nat.not_lt, -Nat.not_le, sx]
  have hlv := hlive
  rw [<- hw] at hlv
  have hJ := cm0 hE hl h0 F d hd [] 4 (bS []) (tk ts n).at_ (LxR.aC0 hlv).1
  rcases hx1 : pVal ts F d [] (n + 1) with ⟨x1, n1⟩ | ⟨a, e⟩
  rotate_left
  ·rw [hx1] at hJ hw
   simp only [pAns, ar0, LxR.bind] at hJ hw
   subst hw
   refine aa0 [.l 5 0, .l 2 0, .l 3 0, .e 0] rfl rfl (by simp) ?_
   simp
   have hpO := hJ
   try simp [pObs, aD0, az0, ik0, aE0] at hpO
   refine cw0 hpO ?_
   clear hpO hJ
   intro y
   rcases y with _ | y
   all_goals
    simp +contextual (maxSteps := 2000000) (disch := omega) [-Int.not_lt, -Int.not_le, -Nat.not_lt, -Nat.not_le, sx, optV, ik0, aD0, aE0]
    refine endP ?_
    simp +contextual (maxSteps := 2000000) (disch := omega) [-Int.not_lt, -Int.not_le, -Nat.not_lt, -Nat.not_le, sx, pObs, pAns]
  have q1 := h60 hE h0 hx1
  rw [hx1] at hJ hw
  simp only [pAns, ar0, LxR.bind] at hJ hw
  refine aa0 [.l 5 0, .l 2 0, .l 3 0, .e 0] rfl rfl (by simp) ?_
  simp
  have hpO := hJ
  try simp [pObs, a00, aE0, aD0, az0] at hpO
  refine ab0 54 hpO (by simp) ?_
  clear hpO
  simp +contextual (maxSteps := 2000000) (disch := omega) [-Int.not_lt, -Int.not_le, -Nat.not_lt, -Nat.not_le, sx]
  have hlv := hlive
  rw [<- hw] at hlv
  have hJ := IHk F (by omega) (d + 1) n1 (by omega) q1.2 (LxR.aC0 hlv).1
  rcases hx2 : cF0 ts F (d + 1) n1 with ⟨b2, n2⟩ | ⟨a, e⟩
  rotate_left
  ·rw [hx2] at hJ hw
   simp only [pAns, ar0, LxR.bind] at hJ hw
   subst hw
   refine aa0 [.e 0] rfl rfl (by simp) ?_
   simp
   have hpO := hJ
   try simp [pObs, a00, aE0, aD0, az0] at hpO
   refine af0 hpO ?_
   clear hpO
   simp +contextual (maxSteps := 2000000) (disch := omega) [-Int.not_lt, -Int.not_le, -Nat.not_lt, -Nat.not_le, sx]
   refine endP ?_
   simp +contextual (maxSteps := 2000000) (disch := omega) [-Int.not_lt, -Int.not_le, -Nat.not_lt, -Nat.not_le, sx, pObs, pAns]
  have q2 := (nr0 hE F).block q1.2 hx2
  rw [hx2] at hJ hw
  simp only [pAns, ar0, LxR.bind] at hJ hw
  refine aa0 [.e 0] rfl rfl (by simp) ?_
  simp
  have hpO := hJ
  try simp [pObs, a00, aE0, aD0, az0] at hpO
  refine ab0 58 hpO (by simp) ?_
  clear hpO
  simp +contextual (maxSteps := 2000000) (disch := omega) [-Int.not_lt, -Int.not_le, -Nat.not_lt, -Nat.not_le, sx]
  refine aa0 [.e 0] rfl rfl (by simp) ?_
  simp
  have hpO := ag0 q2.2 hl 1 cO0
  try simp [pObs, a00, aE0, aD0, az0] at hpO
  refine ab0 61 hpO (by simp) ?_
  clear hpO
  cases hb : isT ts n2 1 cO0 with
  | true =>
   have h00 := aM0 hE q2.2 hb (by decide)
   rw [hb] at hw
   simp only [if_true] at hw
   simp +contextual (maxSteps := 2000000) (disch := omega) [-Int.not_lt, -Int.not_le, -Nat.not_lt, -Nat.not_le, sx]
   have hlv := hlive
   rw [<- hw] at hlv
   have hJ := IHk F (by omega) (d + 1) (n2 + 1) (by omega) h00 (LxR.aC0 hlv).1
   rcases hx3 : cF0 ts F (d + 1) (n2 + 1) with ⟨b3, n3⟩ | ⟨a, e⟩
   rotate_left
   ·rw [hx3] at hJ hw
    simp only [pAns, ar0, LxR.bind] at hJ hw
    subst hw
    refine aa0 [.e 0] rfl rfl (by simp) ?_
    simp
    have hpO := hJ
    try simp [pObs, a00, aE0, aD0, az0] at hpO
    refine af0 hpO ?_
    clear hpO
    simp +contextual (maxSteps := 2000000) (disch := omega) [-Int.not_lt, -Int.not_le, -Nat.not_lt, -Nat.not_le, sx]
    refine endP ?_
    simp +contextual (maxSteps := 2000000) (disch := omega) [-Int.not_lt, -Int.not_le, -Nat.not_lt, -Nat.not_le, sx, pObs, pAns]
   have q3 := (nr0 hE F).block h00 hx3
   rw [hx3] at hJ hw
   simp only [pAns, ar0, LxR.bind] at hJ hw
   refine aa0 [.e 0] rfl rfl (by simp) ?_
   simp
   have hpO := hJ
   try simp [pObs, a00, aE0, aD0, az0] at hpO
   refine ab0 65 hpO (by simp) ?_
   clear hpO
   simp +contextual (maxSteps := 2000000) (disch := omega) [-Int.not_lt, -Int.not_le, -Nat.not_lt, -Nat.not_le, sx]
   subst hw
   refine endR _ _ (Wk.refl _ _) [] (by simp) ?_
   rw [pAns, stm0, Stm.V, Stm.ac0 (.mk _ _ _ _ _ _ _ _ _)]
   simp +contextual (maxSteps := 2000000) (disch := omega) [-Int.not_lt, -Int.not_le, -Nat.not_lt, -Nat.not_le, sx, pObs, Stm.kind, Stm.name, Stm.slot, Stm.state, Stm.num, Stm.e, Stm.body, Stm.els, Stm.at_]
  | false =>
  rw [hb] at hw
  simp only [Bool.false_eq_true, if_false] at hw
  simp +contextual (maxSteps := 2000000) (disch := omega) [-Int.not_lt, -Int.not_le, -Nat.not_lt, -Nat.not_le, sx]
  subst hw
  refine endR _ _ (Wk.refl _ _) [] (by simp) ?_
  rw [pAns, stm0, Stm.V, Stm.ac0 (.mk _ _ _ _ _ _ _ _ _)]
  simp +contextual (maxSteps := 2000000) (disch := omega) [-Int.not_lt, -Int.not_le, -Nat.not_lt, -Nat.not_le, sx, pObs, Stm.kind, Stm.name, Stm.slot, Stm.state, Stm.num, Stm.e, Stm.body, Stm.els, Stm.at_]
 | false =>
 rw [hkwIf] at hw
 simp only [Bool.false_eq_true, if_false] at hw
 simp +contextual (maxSteps := 2000000) (disch := omega) [-Int.not_lt, -Int.not_le, -Nat.not_lt, -Nat.not_le, sx]
 refine aa0 [.e 0] rfl rfl (by simp) ?_
 simp
 have hpO := ag0 hn hl 1 fB0
 try simp [pObs, a00, aE0, aD0, az0] at hpO
 refine ab0 68 hpO (by simp) ?_
 clear hpO
 cases hkwFor : isT ts n 1 fB0 with
 | true =>
  have h0 := aM0 hE hn hkwFor (by decide)
  rw [hkwFor] at hw
  simp only [if_true] at hw
  simp +contextual (maxSteps := 2000000) (disch := omega) [-Int.not_lt, -Int.not_le, -Nat.not_lt, -Nat.not_le, sx]
  have hJ := e50 hl h0 5 (tk ts n).at_
  rcases hx1 : ed0 ts (n + 1) with ⟨t1, n1⟩ | ⟨a, e⟩
  rotate_left
  ·rw [hx1] at hJ hw
   simp only [pAns, ar0, LxR.bind] at hJ hw
   subst hw
   refine aa0 [.l 2 0, .l 5 0, .e 0] rfl rfl (by simp) ?_
   simp
   have hpO := hJ
   try simp [pObs, a00, aE0, aD0, az0] at hpO
   refine af0 hpO ?_
   clear hpO
   simp +contextual (maxSteps := 2000000) (disch := omega) [-Int.not_lt, -Int.not_le, -Nat.not_lt, -Nat.not_le, sx]
   refine endP ?_
   simp +contextual (maxSteps := 2000000) (disch := omega) [-Int.not_lt, -Int.not_le, -Nat.not_lt, -Nat.not_le, sx, pObs, pAns]
  have q1 := cG0 hE h0 hx1
  rw [hx1] at hJ hw
  simp only [pAns, ar0, LxR.bind] at hJ hw
  refine aa0 [.l 2 0, .l 5 0, .e 0] rfl rfl (by simp) ?_
  simp
  have hpO := hJ
  try simp [pObs, a00, aE0, aD0, az0] at hpO
  refine ab0 71 hpO (by simp) ?_
  clear hpO
  simp +contextual (maxSteps := 2000000) (disch := omega) [-Int.not_lt, -Int.not_le, -Nat.not_lt, -Nat.not_le, sx]
  refine aa0 [.e 0] rfl rfl (by simp) ?_
  simp
  have hpO := ag0 q1.2 hl 1 kwTo
  try simp [pObs, a00, aE0, aD0, az0] at hpO
  refine ab0 73 hpO (by simp) ?_
  clear hpO
  cases hb : isT ts n1 1 kwTo with
  | false =>
   rw [mO0, hb] at hw
   simp only [Bool.false_eq_true, if_false, e40, LxR.bind] at hw
   subst hw
   simp +contextual (maxSteps := 2000000) (disch := omega) [-Int.not_lt, -Int.not_le, -Nat.not_lt, -Nat.not_le, sx]
   refine aa0 [.e 0] rfl rfl (by simp) ?_
   simp
   have hpO := aN0 q1.2 31
   try simp [pObs, a00, aE0, aD0, az0] at hpO
   refine af0 hpO ?_
   clear hpO
   simp +contextual (maxSteps := 2000000) (disch := omega) [-Int.not_lt, -Int.not_le, -Nat.not_lt, -Nat.not_le, sx]
   refine endP ?_
   simp +contextual (maxSteps := 2000000) (disch := omega) [-Int.not_lt, -Int.not_le, -Nat.not_lt, -Nat.not_le, sx, pObs, pAns]
  | true =>
  have h00 := aM0 hE q1.2 hb (by decide)
  rw [mO0, hb] at hw
  simp only [if_true, LxR.bind] at hw
  simp +contextual (maxSteps := 2000000) (disch := omega) [-Int.not_lt, -Int.not_le, -Nat.not_lt, -Nat.not_le, sx]
  have hlv := hlive
  rw [<- hw] at hlv
  have hJ := cm0 hE hl h00 F d hd [] 5 t1.text (tk ts n).at_ (LxR.aC0 hlv).1
  rcases hx2 : pVal ts F d [] (n1 + 1) with ⟨x2, n2⟩ | ⟨a, e⟩
  rotate_left
  ·rw [hx2] at hJ hw
   simp only [pAns, ar0, LxR.bind] at hJ hw
   subst hw
   refine aa0 [.l 5 0, .l 2 0, .l 3 0, .e 0] rfl rfl (by simp) ?_
   simp
   have hpO := hJ
   try simp [pObs, aD0, az0, ik0, aE0] at hpO
   refine cw0 hpO ?_
   clear hpO hJ
   intro y
   rcases y with _ | y
   all_goals
    simp +contextual (maxSteps := 2000000) (disch := omega) [-Int.not_lt, -Int.not_le, -Nat.not_lt, -Nat.not_le, sx, optV, ik0, aD0, aE0]
    refine endP ?_
    simp +contextual (maxSteps := 2000000) (disch := omega) [-Int.not_lt, -Int.not_le, -Nat.not_lt, -Nat.not_le, sx, pObs, pAns]
  have q2 := h60 hE h00 hx2
  rw [hx2] at hJ hw
  simp only [pAns, ar0, LxR.bind] at hJ hw
  refine aa0 [.l 5 0, .l 2 0, .l 3 0, .e 0] rfl rfl (by simp) ?_
  simp
  have hpO := hJ
  try simp [pObs, a00, aE0, aD0, az0] at hpO
  refine ab0 78 hpO (by simp) ?_
  clear hpO
  simp +contextual (maxSteps := 2000000) (disch := omega) [-Int.not_lt, -Int.not_le, -Nat.not_lt, -Nat.not_le, sx]
  have hlv := hlive
  rw [<- hw] at hlv
  have hJ := IHk F (by omega) (d + 1) n2 (by omega) q2.2 (LxR.aC0 hlv).1
  rcases hx3 : cF0 ts F (d + 1) n2 with ⟨b3, n3⟩ | ⟨a, e⟩
  rotate_left
  ·rw [hx3] at hJ hw
   simp only [pAns, ar0, LxR.bind] at hJ hw
   subst hw
   refine aa0 [.e 0] rfl rfl (by simp) ?_
   simp
   have hpO := hJ
   try simp [pObs, a00, aE0, aD0, az0] at hpO
   refine af0 hpO ?_
   clear hpO
   simp +contextual (maxSteps := 2000000) (disch := omega) [-Int.not_lt, -Int.not_le, -Nat.not_lt, -Nat.not_le, sx]
   refine endP ?_
   simp +contextual (maxSteps := 2000000) (disch := omega) [-Int.not_lt, -Int.not_le, -Nat.not_lt, -Nat.not_le, sx, pObs, pAns]
  have q3 := (nr0 hE F).block q2.2 hx3
  rw [hx3] at hJ hw
  simp only [pAns, ar0, LxR.bind] at hJ hw
  refine aa0 [.e 0] rfl rfl (by simp) ?_
  simp
  have hpO := hJ
  try simp [pObs, a00, aE0, aD0, az0] at hpO
  refine ab0 82 hpO (by simp) ?_
  clear hpO
  simp +contextual (maxSteps := 2000000) (disch := omega) [-Int.not_lt, -Int.not_le, -Nat.not_lt, -Nat.not_le, sx]
  subst hw
  refine endR _ _ (Wk.refl _ _) [] (by simp) ?_
  rw [pAns, stm0, Stm.V, Stm.ac0 (.mk _ _ _ _ _ _ _ _ _)]
  simp +contextual (maxSteps := 2000000) (disch := omega) [-Int.not_lt, -Int.not_le, -Nat.not_lt, -Nat.not_le, sx, pObs, Stm.kind, Stm.name, Stm.slot, Stm.state, Stm.num, Stm.e, Stm.body, Stm.els, Stm.at_]
 | false =>
 rw [hkwFor] at hw
 simp only [Bool.false_eq_true, if_false] at hw
 simp +contextual (maxSteps := 2000000) (disch := omega) [-Int.not_lt, -Int.not_le, -Nat.not_lt, -Nat.not_le, sx]
 refine aa0 [.e 0] rfl rfl (by simp) ?_
 simp
 have hpO := ag0 hn hl 1 fD0
 try simp [pObs, a00, aE0, aD0, az0] at hpO
 refine ab0 86 hpO (by simp) ?_
 clear hpO
 cases hkwRet : isT ts n 1 fD0 with
 | true =>
  have h0 := aM0 hE hn hkwRet (by decide)
  rw [hkwRet] at hw
  simp only [if_true] at hw
  simp +contextual (maxSteps := 2000000) (disch := omega) [-Int.not_lt, -Int.not_le, -Nat.not_lt, -Nat.not_le, sx]
  have hlv := hlive
  rw [<- hw] at hlv
  have hJ := cm0 hE hl h0 F d hd [59] 6 (bS []) (tk ts n).at_ (LxR.aC0 hlv).1
  rcases hx1 : pVal ts F d [59] (n + 1) with ⟨x1, n1⟩ | ⟨a, e⟩
  rotate_left
  ·rw [hx1] at hJ hw
   simp only [pAns, ar0, LxR.bind] at hJ hw
   subst hw
   refine aa0 [.l 5 0, .l 2 0, .l 3 0, .e 0] rfl rfl (by simp) ?_
   simp
   have hpO := hJ
   try simp [pObs, aD0, az0, ik0, aE0] at hpO
   refine cw0 hpO ?_
   clear hpO hJ
   intro y
   rcases y with _ | y
   all_goals
    simp +contextual (maxSteps := 2000000) (disch := omega) [-Int.not_lt, -Int.not_le, -Nat.not_lt, -Nat.not_le, sx, optV, ik0, aD0, aE0]
    refine endP ?_
    simp +contextual (maxSteps := 2000000) (disch := omega) [-Int.not_lt, -Int.not_le, -Nat.not_lt, -Nat.not_le, sx, pObs, pAns]
  have q1 := h60 hE h0 hx1
  rw [hx1] at hJ hw
  simp only [pAns, ar0, LxR.bind] at hJ hw
  refine aa0 [.l 5 0, .l 2 0, .l 3 0, .e 0] rfl rfl (by simp) ?_
  simp
  have hpO := hJ
  try simp [pObs, a00, aE0, aD0, az0] at hpO
  refine ab0 89 hpO (by simp) ?_
  clear hpO
  simp +contextual (maxSteps := 2000000) (disch := omega) [-Int.not_lt, -Int.not_le, -Nat.not_lt, -Nat.not_le, sx]
  subst hw
  refine endR _ _ (Wk.refl _ _) [] (by simp) ?_
  rw [pAns, stm0, Stm.V, Stm.ac0 (.mk _ _ _ _ _ _ _ _ _)]
  simp +contextual (maxSteps := 2000000) (disch := omega) [-Int.not_lt, -Int.not_le, -Nat.not_lt, -Nat.not_le, sx, pObs, Stm.kind, Stm.name, Stm.slot, Stm.state, Stm.num, Stm.e, Stm.body, Stm.els, Stm.at_]
 | false =>
 rw [hkwRet] at hw
 simp only [Bool.false_eq_true, if_false] at hw
 simp +contextual (maxSteps := 2000000) (disch := omega) [-Int.not_lt, -Int.not_le, -Nat.not_lt, -Nat.not_le, sx]
 simp only [e40] at hw
 subst hw
 refine aa0 [.e 0] rfl rfl (by simp) ?_
 simp
 have hpO := aN0 hn 31
 try simp [pObs, a00, aE0, aD0, az0] at hpO
 refine af0 hpO ?_
 clear hpO
 simp +contextual (maxSteps := 2000000) (disch := omega) [-Int.not_lt, -Int.not_le, -Nat.not_lt, -Nat.not_le, sx]
 refine endP ?_
 simp +contextual (maxSteps := 2000000) (disch := omega) [-Int.not_lt, -Int.not_le, -Nat.not_lt, -Nat.not_le, sx, pObs, pAns]
variable {ts : List Tok} {n : Nat}
theorem kK0 (hE : TEnd ts) (hl : ts.length < 2 ^ 40) (F d : Nat) (hd : d <= 25)
  (IHs : ∀ g, g < F -> ∀ d n, d <= 24 -> n < ts.length -> (pStm ts g d n).live -> J prog bh0 [.bp (.e 0) 0, vI d] (pObs ts n) (· = pAns ts Stm.V (pStm ts g d n)))
  (hn : n < ts.length) (hlive : (cF0 ts F d n).live) : J prog b40 [.bp (.e 0) 0, vI d] (pObs ts n) (· = pAns ts stmsV (cF0 ts F d n)) := by
 obtain _ | F := F
 ·rw [cF0] at hlive; exact absurd rfl hlive
 generalize hw : cF0 ts (F + 1) d n = R at *
 rw [cF0] at hw
 have hJ := cc0 hn d
 refine aq0 hR0 (by simp [pObs]) ?_
 simp +contextual (maxSteps := 2000000) (disch := omega) [-Int.not_lt, -Int.not_le, -Nat.not_lt, -Nat.not_le, sx, eh0, pObs, hpE]
 by_cases h : d <= 24
 rotate_left
 ·rw [kR0 h] at hJ hw
  simp only [LxR.bind] at hJ hw
  subst hw
  refine aa0 [.e 0] rfl rfl (by simp) ?_
  simp
  have hpO := hJ
  try simp [pObs] at hpO
  refine af0 hpO ?_
  clear hpO
  simp +contextual (maxSteps := 2000000) (disch := omega) [-Int.not_lt, -Int.not_le, -Nat.not_lt, -Nat.not_le, sx]
  refine endP ?_
  simp +contextual (maxSteps := 2000000) (disch := omega) [-Int.not_lt, -Int.not_le, -Nat.not_lt, -Nat.not_le, sx, pObs, pAns]
 rw [mt0 h] at hJ hw
 simp only [LxR.bind] at hJ hw
 refine aa0 [.e 0] rfl rfl (by simp) ?_
 simp
 have hpO := hJ
 try simp [pObs] at hpO
 refine ab0 8 hpO (by simp) ?_
 clear hpO
 simp +contextual (maxSteps := 2000000) (disch := omega) [-Int.not_lt, -Int.not_le, -Nat.not_lt, -Nat.not_le, sx]
 have hJ := am0 hn hl [123]
 rcases hx : ba0 ts n [123] with n1 | ⟨a, e⟩
 rotate_left
 ·rw [hx] at hJ hw
  simp only [ar0] at hJ hw
  subst hw
  refine aa0 [.e 0] rfl rfl (by simp) ?_
  simp
  have hpO := hJ
  try simp [pObs] at hpO
  refine af0 hpO ?_
  clear hpO
  simp +contextual (maxSteps := 2000000) (disch := omega) [-Int.not_lt, -Int.not_le, -Nat.not_lt, -Nat.not_le, sx]
  refine endP ?_
  simp +contextual (maxSteps := 2000000) (disch := omega) [-Int.not_lt, -Int.not_le, -Nat.not_lt, -Nat.not_le, sx, pObs, pAns]
 have q1 := aw0 hE hn hx
 rw [hx] at hJ hw
 simp only [ar0] at hJ hw
 refine aa0 [.e 0] rfl rfl (by simp) ?_
 simp
 have hpO := hJ
 try simp [pObs] at hpO
 refine ab0 10 hpO (by simp) ?_
 clear hpO
 simp +contextual (maxSteps := 2000000) (disch := omega) [-Int.not_lt, -Int.not_le, -Nat.not_lt, -Nat.not_le, sx]
 refine aH0 (fun y : Nat × Nat × List Stm => y.1) (fun y => [(5, .arr (.l 999 0) 0 y.2.2.length), (0, .bp (.e 0) 0), (1, vI d)])
  (fun y => [(.e 0, .box [.lst (ts.map Tok.cells), vI y.2.1]), (.l 999 0, .row me0 9 true (y.2.2.map Stm.cells))])
  (fun y => y.1 <= F /\ y.2.1 < ts.length /\ y.2.2.length <= y.2.1 /\ nN0 ts y.1 d y.2.2 y.2.1 = R) (F, n1, []) ⟨Nat.le_refl _, q1.2, by simp, hw⟩
  (Wk.trans (Wk.subs (by simp) (by simp)) (Wk.row (s := 5) (id := .l 999 0) (ty := me0) (sz := 9) rfl)) ?_
 rintro ⟨g, n', out⟩ ⟨hg, hn', ho, hw⟩
 dsimp only at hg hn' ho hw
 obtain _ | g := g
 ·rw [nN0] at hw; subst hw; exact absurd rfl hlive
 rw [nN0] at hw
 simp +contextual (maxSteps := 2000000) (disch := omega) [-Int.not_lt, -Int.not_le, -Nat.not_lt, -Nat.not_le, sx]
 refine aa0 [.e 0] rfl rfl (by simp) ?_
 simp
 have hpO := ag0 hn' hl 4 [125]
 try simp [pObs] at hpO
 refine ab0 12 hpO (by simp) ?_
 clear hpO
 cases h2 : isT ts n' 4 [125] with
 | true =>
  rw [h2, if_pos rfl] at hw
  subst hw
  simp +contextual (maxSteps := 2000000) (disch := omega) [-Int.not_lt, -Int.not_le, -Nat.not_lt, -Nat.not_le, sx]
  refine endR _ _ (Wk.refl _ _) [] (by simp) ?_
  simp +contextual (maxSteps := 2000000) (disch := omega) [-Int.not_lt, -Int.not_le, -Nat.not_lt, -Nat.not_le, sx, pObs, pAns]
 | false =>
  rw [h2, if_neg (by simp)] at hw
  have hlv := hlive
  rw [<- hw] at hlv
  have hJ := IHs g (by omega) d n' h hn' (LxR.aC0 hlv).1
  simp +contextual (maxSteps := 2000000) (disch := omega) [-Int.not_lt, -Int.not_le, -Nat.not_lt, -Nat.not_le, sx]
  rcases hx : pStm ts g d n' with ⟨x, m⟩ | ⟨a, e⟩
  ·rw [hx] at hJ hw
   simp only [pAns, LxR.bind] at hJ hw
   have q2 := (nr0 hE g).stm hn' hx
   refine aa0 [.e 0] rfl rfl (by simp) ?_
   simp
   have hpO := hJ
   try simp [pObs] at hpO
   refine ab0 17 hpO (by simp) ?_
   clear hpO
   simp +contextual (maxSteps := 2000000) (disch := omega) [-Int.not_lt, -Int.not_le, -Nat.not_lt, -Nat.not_le, sx]
   refine .of (g, m, out ++ [x]) ⟨by dsimp only; omega, q2.2, by simp; omega, hw⟩ (by dsimp only; omega) (Wk.rens (.l 19 0) (.l 999 0) rfl (by simp) (by simp [renF]) (by simp [renF, bC0]))
  ·rw [hx] at hJ hw
   simp only [pAns, LxR.bind] at hJ hw
   subst hw
   refine aa0 [.e 0] rfl rfl (by simp) ?_
   simp
   have hpO := hJ
   try simp [pObs] at hpO
   refine af0 hpO ?_
   clear hpO
   simp +contextual (maxSteps := 2000000) (disch := omega) [-Int.not_lt, -Int.not_le, -Nat.not_lt, -Nat.not_le, sx]
   refine endP ?_
   simp +contextual (maxSteps := 2000000) (disch := omega) [-Int.not_lt, -Int.not_le, -Nat.not_lt, -Nat.not_le, sx, pObs, pAns]
structure DoesS (ts : List Tok) (f : Nat) : Prop where
 block : ∀ d n, d <= 25 -> n < ts.length -> (cF0 ts f d n).live -> J prog b40 [.bp (.e 0) 0, vI d] (pObs ts n) (· = pAns ts stmsV (cF0 ts f d n))
 stm : ∀ d n, d <= 24 -> n < ts.length -> (pStm ts f d n).live -> J prog bh0 [.bp (.e 0) 0, vI d] (pObs ts n) (· = pAns ts Stm.V (pStm ts f d n))
theorem doesS (hE : TEnd ts) (hl : ts.length < 2 ^ 40) (f : Nat) : DoesS ts f := by
 induction f using Nat.strongRecOn with
 | ind f ih =>
  exact ⟨fun d n hd hn h => kK0 hE hl f d hd (fun g hg => (ih g hg).stm) hn h, fun d n hd hn h => iM0 hE hl f d hd (fun g hg => (ih g hg).block) hn h⟩
variable {ts : List Tok} {n : Nat}
theorem kf0 (hE : TEnd ts) : ∀ {f : Nat} {out : List Slo} {n : Nat}, n < ts.length -> ∀ {a : List Slo} {m : Nat}, eD0 ts f out n = .ok (a, m) -> n < m /\ m < ts.length
 | 0, out, n, hn, a, m, h => by simp [eD0] at h
 | f + 1, out, n, hn, a, m, h => by
  rw [eD0] at h
  obtain ⟨⟨s, n1⟩, e1, h⟩ := an0 h
  have q1 := mN0 hE hn e1
  dsimp only at *
  split at h
  ·rename_i hi
   have h0 := aM0 hE q1.2 hi (by decide)
   injection h with h; injection h with h1 h2; subst h2; omega
  ·obtain ⟨n2, e2, h⟩ := an0 h
   have q2 := aw0 hE q1.2 e2
   have q3 := kf0 hE q2.2 h
   omega
def b20 (name : ByteArray) (on : Bool) (params : V) (result : ByteArray) (body : V) (at_ : Int) : Ob := .box [vS name, vB on, params, vS result, .nil, body, vI at_]
def c50 (ts : List Tok) (n : Int) (name : ByteArray) (on : Bool) (at_ : Int) (out : List Slo) : List Ob :=
 [b20 name on (.arr (.e 3) 0 out.length) (bS []) .nil at_, .box [.bp (.e 2) 0], .box [.lst (ts.map Tok.cells), vI n], .row ef0 3 true (out.map Slo.cells)]
def bO0 (ts : List Tok) (n : Int) (name : ByteArray) (on : Bool) (at_ : Int) (out : List Slo) : List Ob :=
 [b20 name on (.arr (.e 4) 0 out.length) (bS []) .nil at_, .box [.bp (.e 2) 0], .box [.lst (ts.map Tok.cells), vI n], .gone, .row ef0 3 true (out.map Slo.cells)]
theorem pp0 (hE : TEnd ts) (hl : ts.length < 2 ^ 40) (hn : n < ts.length) (name : ByteArray) (on : Bool) (at_ : Int) (out : List Slo) (ho : out.length < 2 ^ 40) :
  J prog aS0 [.bp (.e 0) 0, .bp (.e 1) 0] (c50 ts n name on at_ out) (fun r => r = match kI0 ts n with
   | .ok (x, m) => .ret (.tup []) (bO0 ts m name on at_ (out ++ [x]))
   | .bad a e => .pan (h40 ts a e) (c50 ts a name on at_ out)) := by
 have hJ := h80 hE hl hn
 refine aq0 fQ0 (by simp [c50]) ?_
 simp +contextual (maxSteps := 2000000) (disch := omega) [-Int.not_lt, -Int.not_le, -Nat.not_lt, -Nat.not_le, sx, cW0, c50, b20, hpE]
 rcases hx : kI0 ts n with ⟨x, m⟩ | ⟨a, e⟩
 ·rw [hx] at hJ
  simp only [pAns] at hJ
  refine aP0 [.e 2] [.e 2] rfl rfl (by simp) ?_
  simp
  have hpO := hJ
  try simp [pObs, b20, c50, bO0] at hpO
  refine bG0 5 hpO (by simp) ?_
  clear hpO
  simp +contextual (maxSteps := 2000000) (disch := omega) [-Int.not_lt, -Int.not_le, -Nat.not_lt, -Nat.not_le, sx]
  refine endN _ _ (Wk.refl _ _) [.l 7 0] (by simp) ?_
  simp +contextual (maxSteps := 2000000) (disch := omega) [-Int.not_lt, -Int.not_le, -Nat.not_lt, -Nat.not_le, sx, bO0, b20]
 ·rw [hx] at hJ
  simp only [pAns] at hJ
  refine aP0 [.e 2] [.e 2] rfl rfl (by simp) ?_
  simp
  have hpO := hJ
  try simp [pObs, b20, c50, bO0] at hpO
  refine cv0 hpO ?_
  clear hpO
  simp +contextual (maxSteps := 2000000) (disch := omega) [-Int.not_lt, -Int.not_le, -Nat.not_lt, -Nat.not_le, sx]
  refine endP ?_
  simp +contextual (maxSteps := 2000000) (disch := omega) [-Int.not_lt, -Int.not_le, -Nat.not_lt, -Nat.not_le, sx, c50, b20]
def aB0 (ts : List Tok) (n : Int) (name : ByteArray) (on : Bool) (params : V) (at_ : Int) : List Ob :=
 [.box [.lst (ts.map Tok.cells), vI n], b20 name on params (bS []) .nil at_, .box [.bp (.e 0) 0]]
theorem kD0 (hl : ts.length < 2 ^ 40) (hn : n < ts.length) (h : isT ts n 4 [41] = true) (name : ByteArray) (on : Bool) (at_ : Int) :
  J prog by0 [.bp (.e 0) 0, vS (bS [41]), .fn aS0 [.bp (.e 1) 0, .bp (.e 2) 0]] (aB0 ts n name on .nil at_) (· = .ret (.tup []) (aB0 ts (n + 1 : Nat) name on .nil at_)) := by
 refine aq0 b50 (by simp [aB0]) ?_
 simp +contextual (maxSteps := 2000000) (disch := omega) [-Int.not_lt, -Int.not_le, -Nat.not_lt, -Nat.not_le, sx, bp0, aB0, b20, hpE]
 refine aa0 [.e 0] rfl rfl (by simp) ?_
 simp
 have hpO := ag0 hn hl 4 [41]
 try simp [pObs, b20, c50, bO0, aB0] at hpO
 refine ab0 8 hpO (by simp) ?_
 clear hpO
 simp +contextual (maxSteps := 2000000) (disch := omega) [-Int.not_lt, -Int.not_le, -Nat.not_lt, -Nat.not_le, sx, h]
 refine endR _ _ (Wk.refl _ _) [] (by simp) ?_
 simp +contextual (maxSteps := 2000000) (disch := omega) [-Int.not_lt, -Int.not_le, -Nat.not_lt, -Nat.not_le, sx]
theorem kE0 (hE : TEnd ts) (hl : ts.length < 2 ^ 40) (hn : n < ts.length) (h : isT ts n 4 [41] = false) (name : ByteArray) (on : Bool) (at_ : Int) (F : Nat) (hlive : (eD0 ts F [] n).live) :
  J prog by0 [.bp (.e 0) 0, vS (bS [41]), .fn aS0 [.bp (.e 1) 0, .bp (.e 2) 0]] (aB0 ts n name on .nil at_) (fun r => match eD0 ts F [] n with
   | .ok (xs, m) => r = .ret (.tup []) (aB0 ts m name on (.arr (.e 3) 0 xs.length) at_ ++ [.row ef0 3 true (xs.map Slo.cells)])
   | .bad a e => ∃ y : List (List V), r = .pan (h40 ts a e) (aB0 ts a name on (.lst y) at_)) := by
 generalize hR : eD0 ts F [] n = R at *
 refine aq0 b50 (by simp [aB0]) ?_
 simp +contextual (maxSteps := 2000000) (disch := omega) [-Int.not_lt, -Int.not_le, -Nat.not_lt, -Nat.not_le, sx, bp0, aB0, b20, hpE]
 refine aa0 [.e 0] rfl rfl (by simp) ?_
 simp
 have hpO := ag0 hn hl 4 [41]
 try simp [pObs, b20, c50, bO0, aB0] at hpO
 refine ab0 8 hpO (by simp) ?_
 clear hpO
 simp +contextual (maxSteps := 2000000) (disch := omega) [-Int.not_lt, -Int.not_le, -Nat.not_lt, -Nat.not_le, sx, h]
 refine aH0 (fun y : Nat × Nat × List Slo => y.1) (fun y => [(0, .bp (.e 0) 0), (1, vS (bS [41])), (2, .fn aS0 [.bp (.e 1) 0, .bp (.e 2) 0])])
  (fun y => [(.e 0, .box [.lst (ts.map Tok.cells), vI y.2.1]), (.e 1, b20 name on (.arr (.l 999 0) 0 y.2.2.length) (bS []) .nil at_), (.e 2, .box [.bp (.e 0) 0]), (.l 999 0, .row ef0 3 true (y.2.2.map Slo.cells))])
  (fun y => y.1 <= F /\ y.2.1 < ts.length /\ y.2.2.length <= y.2.1 /\ eD0 ts y.1 y.2.2 y.2.1 = R) (F, n, []) ⟨Nat.le_refl _, hn, by simp, hR⟩
  (Wk.trans (Wk.subs (by simp) (by simp [b20])) (Wk.rowB (b := .e 1) (id := .l 999 0) (off := 2) (ty := ef0) (sz := 3) rfl rfl (by simp) (by simp))) ?_
 rintro ⟨g, n', out⟩ ⟨hg, hn', ho, hw⟩
 dsimp only at hg hn' ho hw
 obtain _ | g := g
 ·rw [eD0] at hw; subst hw; exact absurd rfl hlive
 rw [eD0] at hw
 have hJ := pp0 hE hl hn' name on at_ out (by omega)
 rcases hx : kI0 ts n' with ⟨x, m⟩ | ⟨a, e⟩
 ·rw [hx] at hJ hw
  simp only [LxR.bind] at hw
  have q1 := mN0 hE hn' hx
  simp +contextual (maxSteps := 2000000) (disch := omega) [-Int.not_lt, -Int.not_le, -Nat.not_lt, -Nat.not_le, sx, b20]
  refine aa0 [.e 1, .e 2, .e 0, .l 999 0] rfl rfl (by simp) ?_
  simp
  have hpO := hJ
  try simp [pObs, b20, c50, bO0, aB0] at hpO
  refine ab0 10 hpO (by simp) ?_
  clear hpO
  simp +contextual (maxSteps := 2000000) (disch := omega) [-Int.not_lt, -Int.not_le, -Nat.not_lt, -Nat.not_le, sx]
  refine aa0 [.e 0] rfl rfl (by simp) ?_
  simp
  have hpO := ag0 q1.2 hl 4 [41]
  try simp [pObs, b20, c50, bO0, aB0] at hpO
  refine ab0 13 hpO (by simp) ?_
  clear hpO
  cases h2 : isT ts m 4 [41] with
  | true =>
   rw [h2, if_pos rfl] at hw
   subst hw
   simp +contextual (maxSteps := 2000000) (disch := omega) [-Int.not_lt, -Int.not_le, -Nat.not_lt, -Nat.not_le, sx]
   refine endR _ _ (Wk.refl _ _) [.l 10 0] (by simp) ?_
   simp +contextual (maxSteps := 2000000) (disch := omega) [-Int.not_lt, -Int.not_le, -Nat.not_lt, -Nat.not_le, sx]
  | false =>
   rw [h2, if_neg (by simp)] at hw
   simp +contextual (maxSteps := 2000000) (disch := omega) [-Int.not_lt, -Int.not_le, -Nat.not_lt, -Nat.not_le, sx]
   have hJ2 := am0 q1.2 hl [44]
   rcases h3 : ba0 ts m [44] with m2 | ⟨a, e⟩
   ·have q2 := aw0 hE q1.2 h3
    rw [h3] at hJ2 hw
    simp only [LxR.bind] at hw
    simp only [ar0] at hJ2
    refine aa0 [.e 0] rfl rfl (by simp) ?_
    simp
    have hpO := hJ2
    try simp [pObs, b20, c50, bO0, aB0] at hpO
    refine ab0 15 hpO (by simp) ?_
    clear hpO
    simp +contextual (maxSteps := 2000000) (disch := omega) [-Int.not_lt, -Int.not_le, -Nat.not_lt, -Nat.not_le, sx]
    refine .of (g, m2, out ++ [x]) ⟨by dsimp only; omega, q2.2, by simp; omega, hw⟩ (by dsimp only; omega) (Wk.rens (.l 10 0) (.l 999 0) rfl (by simp) (by simp [renF, b20]) (by simp [renF, bC0, b20]))
   ·rw [h3] at hJ2 hw
    simp only [LxR.bind] at hw
    simp only [ar0] at hJ2
    subst hw
    refine aa0 [.e 0] rfl rfl (by simp) ?_
    simp
    have hpO := hJ2
    try simp [pObs, b20, c50, bO0, aB0] at hpO
    refine af0 hpO ?_
    clear hpO
    simp +contextual (maxSteps := 2000000) (disch := omega) [-Int.not_lt, -Int.not_le, -Nat.not_lt, -Nat.not_le, sx]
    refine endP ?_
    simp +contextual (maxSteps := 2000000) (disch := omega) [-Int.not_lt, -Int.not_le, -Nat.not_lt, -Nat.not_le, sx]
 ·rw [hx] at hJ hw
  simp only [LxR.bind] at hw
  subst hw
  simp +contextual (maxSteps := 2000000) (disch := omega) [-Int.not_lt, -Int.not_le, -Nat.not_lt, -Nat.not_le, sx, b20]
  refine aa0 [.e 1, .e 2, .e 0, .l 999 0] rfl rfl (by simp) ?_
  simp
  have hpO := hJ
  try simp [pObs, b20, c50, bO0, aB0] at hpO
  refine af0 hpO ?_
  clear hpO
  simp +contextual (maxSteps := 2000000) (disch := omega) [-Int.not_lt, -Int.not_le, -Nat.not_lt, -Nat.not_le, sx]
  refine endP ?_
  simp +contextual (maxSteps := 2000000) (disch := omega) [-Int.not_lt, -Int.not_le, -Nat.not_lt, -Nat.not_le, sx]
variable {ts : List Tok} {n : Nat}
theorem pFun_lt (hE : TEnd ts) (hn : n < ts.length) {f : Nat} {on : Bool} {a : Fun} {m : Nat} (h : pFun ts f on n = .ok (a, m)) : n < m /\ m < ts.length := by
 unfold pFun at h
 obtain ⟨⟨t, n1⟩, e1, h⟩ := an0 h
 obtain ⟨n2, e2, h⟩ := an0 h
 obtain ⟨⟨ps, n3⟩, e3, h⟩ := an0 h
 obtain ⟨n4, e4, h⟩ := an0 h
 obtain ⟨⟨k, n5⟩, e5, h⟩ := an0 h
 obtain ⟨⟨b, n6⟩, e6, h⟩ := an0 h
 have q1 := cG0 hE hn e1
 have q2 := aw0 hE q1.2 e2
 dsimp only at *
 have q3 : n2 < n3 /\ n3 < ts.length := by
  split at e3
  ·rename_i hi
   have h0 := aM0 hE q2.2 hi (by decide)
   injection e3 with e3; injection e3 with h1 h2; subst h2; omega
  ·exact kf0 hE q2.2 e3
 have q4 := aw0 hE q3.2 e4
 have q5 := gf0 hE q4.2 e5
 have q6 := (nr0 hE f).block q5.2.1 e6
 injection h with h; injection h with h1 h2; subst h2
 omega
set_option maxHeartbeats 1600000 in
theorem fG0 (hE : TEnd ts) (hl : ts.length < 2 ^ 40) (F : Nat) (on : Bool) (hn : n < ts.length) (hlive : (pFun ts F on n).live) :
  J prog dB0 [.bp (.e 0) 0, vB on] (pObs ts n) (· = pAns ts Fun.V (pFun ts F on n)) := by
 generalize hw : pFun ts F on n = R at *
 rw [pFun] at hw
 refine aq0 gG0 (by simp [pObs]) ?_
 simp +contextual (maxSteps := 2000000) (disch := omega) [-Int.not_lt, -Int.not_le, -Nat.not_lt, -Nat.not_le, sx, dg0, pObs, hpE]
 have hJ := dN0 hn hl
 rcases hx1 : ed0 ts n with ⟨t, n1⟩ | ⟨a, e⟩
 rotate_left
 ·rw [hx1] at hJ hw
  simp only [pAns, ar0, LxR.bind] at hJ hw
  subst hw
  refine aa0 [.e 0] rfl rfl (by simp) ?_
  simp
  have hpO := hJ
  try simp [pObs, b20, c50, bO0, aB0] at hpO
  refine af0 hpO ?_
  clear hpO
  simp +contextual (maxSteps := 2000000) (disch := omega) [-Int.not_lt, -Int.not_le, -Nat.not_lt, -Nat.not_le, sx]
  refine endP ?_
  simp +contextual (maxSteps := 2000000) (disch := omega) [-Int.not_lt, -Int.not_le, -Nat.not_lt, -Nat.not_le, sx, pObs, pAns]
 have q1 := cG0 hE hn hx1
 rw [hx1] at hJ hw
 simp only [pAns, ar0, LxR.bind] at hJ hw
 refine aa0 [.e 0] rfl rfl (by simp) ?_
 simp
 have hpO := hJ
 try simp [pObs, b20, c50, bO0, aB0] at hpO
 refine ab0 8 hpO (by simp) ?_
 clear hpO
 simp +contextual (maxSteps := 2000000) (disch := omega) [-Int.not_lt, -Int.not_le, -Nat.not_lt, -Nat.not_le, sx]
 have hJ := am0 q1.2 hl [40]
 rcases hx2 : ba0 ts n1 [40] with n2 | ⟨a, e⟩
 rotate_left
 ·rw [hx2] at hJ hw
  simp only [pAns, ar0, LxR.bind] at hJ hw
  subst hw
  refine aa0 [.e 0] rfl rfl (by simp) ?_
  simp
  have hpO := hJ
  try simp [pObs, b20, c50, bO0, aB0] at hpO
  refine af0 hpO ?_
  clear hpO
  simp +contextual (maxSteps := 2000000) (disch := omega) [-Int.not_lt, -Int.not_le, -Nat.not_lt, -Nat.not_le, sx]
  refine endP ?_
  simp +contextual (maxSteps := 2000000) (disch := omega) [-Int.not_lt, -Int.not_le, -Nat.not_lt, -Nat.not_le, sx, pObs, pAns]
 have q2 := aw0 hE q1.2 hx2
 rw [hx2] at hJ hw
 simp only [pAns, ar0, LxR.bind] at hJ hw
 refine aa0 [.e 0] rfl rfl (by simp) ?_
 simp
 have hpO := hJ
 try simp [pObs, b20, c50, bO0, aB0] at hpO
 refine ab0 16 hpO (by simp) ?_
 clear hpO
 simp +contextual (maxSteps := 2000000) (disch := omega) [-Int.not_lt, -Int.not_le, -Nat.not_lt, -Nat.not_le, sx]
 cases hb : isT ts n2 4 [41] with
 | true =>
  have h00 := aM0 hE q2.2 hb (by decide)
  rw [hb] at hw
  simp only [if_true, LxR.bind] at hw
  refine aa0 [.e 0, .l 6 0, .l 2 0] rfl rfl (by simp) ?_
  simp
  have hpO := kD0 hl q2.2 hb t.text on t.at_
  try simp [pObs, b20, c50, bO0, aB0] at hpO
  refine ab0 19 hpO (by simp) ?_
  clear hpO
  simp +contextual (maxSteps := 2000000) (disch := omega) [-Int.not_lt, -Int.not_le, -Nat.not_lt, -Nat.not_le, sx]
  have hJ := am0 h00 hl [58]
  rcases hx3 : ba0 ts (n2 + 1) [58] with n4 | ⟨a, e⟩
  rotate_left
  ·rw [hx3] at hJ hw
   simp only [pAns, ar0, LxR.bind] at hJ hw
   subst hw
   refine aa0 [.e 0] rfl rfl (by simp) ?_
   simp
   have hpO := hJ
   try simp [pObs, b20, c50, bO0, aB0] at hpO
   refine af0 hpO ?_
   clear hpO
   simp +contextual (maxSteps := 2000000) (disch := omega) [-Int.not_lt, -Int.not_le, -Nat.not_lt, -Nat.not_le, sx]
   refine endP ?_
   simp +contextual (maxSteps := 2000000) (disch := omega) [-Int.not_lt, -Int.not_le, -Nat.not_lt, -Nat.not_le, sx, pObs, pAns]
  have q3 := aw0 hE h00 hx3
  rw [hx3] at hJ hw
  simp only [pAns, ar0, LxR.bind] at hJ hw
  refine aa0 [.e 0] rfl rfl (by simp) ?_
  simp
  have hpO := hJ
  try simp [pObs, b20, c50, bO0, aB0] at hpO
  refine ab0 21 hpO (by simp) ?_
  clear hpO
  simp +contextual (maxSteps := 2000000) (disch := omega) [-Int.not_lt, -Int.not_le, -Nat.not_lt, -Nat.not_le, sx]
  have hJ := cQ0 hE hl 4 1 n4 rfl q3.2
  rcases hx4 : h50 ts 4 n4 with ⟨k, n5⟩ | ⟨a, e⟩
  rotate_left
  ·rw [hx4] at hJ hw
   simp only [pAns, ar0, LxR.bind] at hJ hw
   subst hw
   refine aa0 [.e 0] rfl rfl (by simp) ?_
   simp
   have hpO := hJ
   try simp [pObs, b20, c50, bO0, aB0] at hpO
   refine af0 hpO ?_
   clear hpO
   simp +contextual (maxSteps := 2000000) (disch := omega) [-Int.not_lt, -Int.not_le, -Nat.not_lt, -Nat.not_le, sx]
   refine endP ?_
   simp +contextual (maxSteps := 2000000) (disch := omega) [-Int.not_lt, -Int.not_le, -Nat.not_lt, -Nat.not_le, sx, pObs, pAns]
  have q4 := gf0 hE q3.2 hx4
  rw [hx4] at hJ hw
  simp only [pAns, ar0, LxR.bind] at hJ hw
  refine aa0 [.e 0] rfl rfl (by simp) ?_
  simp
  have hpO := hJ
  try simp [pObs, b20, c50, bO0, aB0] at hpO
  refine ab0 23 hpO (by simp) ?_
  clear hpO
  simp +contextual (maxSteps := 2000000) (disch := omega) [-Int.not_lt, -Int.not_le, -Nat.not_lt, -Nat.not_le, sx]
  have hlv := hlive
  rw [<- hw] at hlv
  have hJ := (doesS hE hl F).block 1 n5 (by omega) q4.2.1 (LxR.aC0 hlv).1
  rcases hx5 : cF0 ts F 1 n5 with ⟨b, n6⟩ | ⟨a, e⟩
  rotate_left
  ·rw [hx5] at hJ hw
   simp only [pAns, ar0, LxR.bind] at hJ hw
   subst hw
   refine aa0 [.e 0] rfl rfl (by simp) ?_
   simp
   have hpO := hJ
   try simp [pObs, b20, c50, bO0, aB0] at hpO
   refine af0 hpO ?_
   clear hpO
   simp +contextual (maxSteps := 2000000) (disch := omega) [-Int.not_lt, -Int.not_le, -Nat.not_lt, -Nat.not_le, sx]
   refine endP ?_
   simp +contextual (maxSteps := 2000000) (disch := omega) [-Int.not_lt, -Int.not_le, -Nat.not_lt, -Nat.not_le, sx, pObs, pAns]
  have q5 := (nr0 hE F).block q4.2.1 hx5
  rw [hx5] at hJ hw
  simp only [pAns, ar0, LxR.bind] at hJ hw
  refine aa0 [.e 0] rfl rfl (by simp) ?_
  simp
  have hpO := hJ
  try simp [pObs, b20, c50, bO0, aB0] at hpO
  refine ab0 26 hpO (by simp) ?_
  clear hpO
  simp +contextual (maxSteps := 2000000) (disch := omega) [-Int.not_lt, -Int.not_le, -Nat.not_lt, -Nat.not_le, sx]
  subst hw
  refine endR _ _ (Wk.refl _ _) [] (by simp) ?_
  simp +contextual (maxSteps := 2000000) (disch := omega) [-Int.not_lt, -Int.not_le, -Nat.not_lt, -Nat.not_le, sx, pObs, pAns, Fun.ac0]
 | false =>
 rw [hb] at hw
 simp only [Bool.false_eq_true, if_false] at hw
 have hlv := hlive
 rw [<- hw] at hlv
 have hJ := kE0 hE hl q2.2 hb t.text on t.at_ F (LxR.aC0 hlv).1
 rcases hx3 : eD0 ts F [] n2 with ⟨ps, n3⟩ | ⟨a, e⟩
 rotate_left
 ·rw [hx3] at hJ hw
  simp only [pAns, ar0, LxR.bind] at hJ hw
  subst hw
  refine aa0 [.e 0, .l 6 0, .l 2 0] rfl rfl (by simp) ?_
  simp
  have hpO := hJ
  try simp [pObs, b20, aB0] at hpO
  refine cw0 hpO ?_
  clear hpO hJ
  intro y
  simp +contextual (maxSteps := 2000000) (disch := omega) [-Int.not_lt, -Int.not_le, -Nat.not_lt, -Nat.not_le, sx]
  refine endP ?_
  simp +contextual (maxSteps := 2000000) (disch := omega) [-Int.not_lt, -Int.not_le, -Nat.not_lt, -Nat.not_le, sx, pObs, pAns]
 have q3 := kf0 hE q2.2 hx3
 rw [hx3] at hJ hw
 simp only [pAns, ar0, LxR.bind] at hJ hw
 refine aa0 [.e 0, .l 6 0, .l 2 0] rfl rfl (by simp) ?_
 simp
 have hpO := hJ
 try simp [pObs, b20, c50, bO0, aB0] at hpO
 refine ab0 19 hpO (by simp) ?_
 clear hpO
 simp +contextual (maxSteps := 2000000) (disch := omega) [-Int.not_lt, -Int.not_le, -Nat.not_lt, -Nat.not_le, sx]
 have hJ := am0 q3.2 hl [58]
 rcases hx4 : ba0 ts n3 [58] with n4 | ⟨a, e⟩
 rotate_left
 ·rw [hx4] at hJ hw
  simp only [pAns, ar0, LxR.bind] at hJ hw
  subst hw
  refine aa0 [.e 0] rfl rfl (by simp) ?_
  simp
  have hpO := hJ
  try simp [pObs, b20, c50, bO0, aB0] at hpO
  refine af0 hpO ?_
  clear hpO
  simp +contextual (maxSteps := 2000000) (disch := omega) [-Int.not_lt, -Int.not_le, -Nat.not_lt, -Nat.not_le, sx]
  refine endP ?_
  simp +contextual (maxSteps := 2000000) (disch := omega) [-Int.not_lt, -Int.not_le, -Nat.not_lt, -Nat.not_le, sx, pObs, pAns]
 have q4 := aw0 hE q3.2 hx4
 rw [hx4] at hJ hw
 simp only [pAns, ar0, LxR.bind] at hJ hw
 refine aa0 [.e 0] rfl rfl (by simp) ?_
 simp
 have hpO := hJ
 try simp [pObs, b20, c50, bO0, aB0] at hpO
 refine ab0 21 hpO (by simp) ?_
 clear hpO
 simp +contextual (maxSteps := 2000000) (disch := omega) [-Int.not_lt, -Int.not_le, -Nat.not_lt, -Nat.not_le, sx]
 have hJ := cQ0 hE hl 4 1 n4 rfl q4.2
 rcases hx5 : h50 ts 4 n4 with ⟨k, n5⟩ | ⟨a, e⟩
 rotate_left
 ·rw [hx5] at hJ hw
  simp only [pAns, ar0, LxR.bind] at hJ hw
  subst hw
  refine aa0 [.e 0] rfl rfl (by simp) ?_
  simp
  have hpO := hJ
  try simp [pObs, b20, c50, bO0, aB0] at hpO
  refine af0 hpO ?_
  clear hpO
  simp +contextual (maxSteps := 2000000) (disch := omega) [-Int.not_lt, -Int.not_le, -Nat.not_lt, -Nat.not_le, sx]
  refine endP ?_
  simp +contextual (maxSteps := 2000000) (disch := omega) [-Int.not_lt, -Int.not_le, -Nat.not_lt, -Nat.not_le, sx, pObs, pAns]
 have q5 := gf0 hE q4.2 hx5
 rw [hx5] at hJ hw
 simp only [pAns, ar0, LxR.bind] at hJ hw
 refine aa0 [.e 0] rfl rfl (by simp) ?_
 simp
 have hpO := hJ
 try simp [pObs, b20, c50, bO0, aB0] at hpO
 refine ab0 23 hpO (by simp) ?_
 clear hpO
 simp +contextual (maxSteps := 2000000) (disch := omega) [-Int.not_lt, -Int.not_le, -Nat.not_lt, -Nat.not_le, sx]
 have hlv := hlive
 rw [<- hw] at hlv
 have hJ := (doesS hE hl F).block 1 n5 (by omega) q5.2.1 (LxR.aC0 hlv).1
 rcases hx6 : cF0 ts F 1 n5 with ⟨b, n6⟩ | ⟨a, e⟩
 rotate_left
 ·rw [hx6] at hJ hw
  simp only [pAns, ar0, LxR.bind] at hJ hw
  subst hw
  refine aa0 [.e 0] rfl rfl (by simp) ?_
  simp
  have hpO := hJ
  try simp [pObs, b20, c50, bO0, aB0] at hpO
  refine af0 hpO ?_
  clear hpO
  simp +contextual (maxSteps := 2000000) (disch := omega) [-Int.not_lt, -Int.not_le, -Nat.not_lt, -Nat.not_le, sx]
  refine endP ?_
  simp +contextual (maxSteps := 2000000) (disch := omega) [-Int.not_lt, -Int.not_le, -Nat.not_lt, -Nat.not_le, sx, pObs, pAns]
 have q6 := (nr0 hE F).block q5.2.1 hx6
 rw [hx6] at hJ hw
 simp only [pAns, ar0, LxR.bind] at hJ hw
 refine aa0 [.e 0] rfl rfl (by simp) ?_
 simp
 have hpO := hJ
 try simp [pObs, b20, c50, bO0, aB0] at hpO
 refine ab0 26 hpO (by simp) ?_
 clear hpO
 simp +contextual (maxSteps := 2000000) (disch := omega) [-Int.not_lt, -Int.not_le, -Nat.not_lt, -Nat.not_le, sx]
 subst hw
 refine endR _ _ (Wk.refl _ _) [] (by simp) ?_
 simp +contextual (maxSteps := 2000000) (disch := omega) [-Int.not_lt, -Int.not_le, -Nat.not_lt, -Nat.not_le, sx, pObs, pAns, Fun.ac0]
variable {ts : List Tok} {n : Nat}
set_option maxHeartbeats 1600000 in
theorem jU0 (hE : TEnd ts) (hl : ts.length < 2 ^ 40) (F : Nat) (hn : 0 < ts.length) (hlive : (nM0 ts F).live) :
  J prog dS0 [.bp (.e 0) 0] (pObs ts 0) (· = pAns ts Prg.V (nM0 ts F)) := by
 generalize hw : nM0 ts F = R at *
 rw [nM0] at hw
 refine aq0 g40 (by simp [pObs]) ?_
 simp +contextual (maxSteps := 2000000) (disch := omega) [-Int.not_lt, -Int.not_le, -Nat.not_lt, -Nat.not_le, sx, dw0, pObs, hpE]
 refine aa0 [.e 0] rfl rfl (by simp) ?_
 simp
 have hpO := ag0 (n := 0) hn hl 1 dK0
 try simp [pObs] at hpO
 refine ab0 5 hpO (by simp) ?_
 clear hpO
 cases hb : isT ts 0 1 dK0 with
 | false =>
  rw [mO0, hb] at hw
  simp only [Bool.false_eq_true, if_false, e40, LxR.bind] at hw
  subst hw
  simp +contextual (maxSteps := 2000000) (disch := omega) [-Int.not_lt, -Int.not_le, -Nat.not_lt, -Nat.not_le, sx]
  refine aa0 [.e 0] rfl rfl (by simp) ?_
  simp
  have hpO := aN0 (n := 0) hn 31
  try simp [pObs] at hpO
  refine af0 hpO ?_
  clear hpO
  simp +contextual (maxSteps := 2000000) (disch := omega) [-Int.not_lt, -Int.not_le, -Nat.not_lt, -Nat.not_le, sx]
  refine endP ?_
  simp +contextual (maxSteps := 2000000) (disch := omega) [-Int.not_lt, -Int.not_le, -Nat.not_lt, -Nat.not_le, sx, pObs, pAns]
 | true =>
 have h00 := aM0 hE hn hb (by decide)
 rw [mO0, hb] at hw
 simp only [if_true, LxR.bind] at hw
 simp +contextual (maxSteps := 2000000) (disch := omega) [-Int.not_lt, -Int.not_le, -Nat.not_lt, -Nat.not_le, sx]
 have hJ := lU0 h00 hl
 rcases hx1 : pInt ts (0 + 1) with ⟨v, n1⟩ | ⟨a, e⟩
 rotate_left
 ·rw [hx1] at hJ hw
  simp only [pAns, ar0, LxR.bind] at hJ hw
  subst hw
  refine aa0 [.e 0] rfl rfl (by simp) ?_
  simp
  have hpO := hJ
  try simp [pObs] at hpO
  refine af0 hpO ?_
  clear hpO
  simp +contextual (maxSteps := 2000000) (disch := omega) [-Int.not_lt, -Int.not_le, -Nat.not_lt, -Nat.not_le, sx]
  refine endP ?_
  simp +contextual (maxSteps := 2000000) (disch := omega) [-Int.not_lt, -Int.not_le, -Nat.not_lt, -Nat.not_le, sx, pObs, pAns]
 have q1 := pInt_lt hE h00 hx1
 rw [hx1] at hJ hw
 simp only [pAns, ar0, LxR.bind] at hJ hw
 refine aa0 [.e 0] rfl rfl (by simp) ?_
 simp
 have hpO := hJ
 try simp [pObs] at hpO
 refine ab0 10 hpO (by simp) ?_
 clear hpO
 simp +contextual (maxSteps := 2000000) (disch := omega) [-Int.not_lt, -Int.not_le, -Nat.not_lt, -Nat.not_le, sx]
 have hJ := am0 q1.2 hl [59]
 rcases hx2 : ba0 ts n1 [59] with n2 | ⟨a, e⟩
 rotate_left
 ·rw [hx2] at hJ hw
  simp only [pAns, ar0, LxR.bind] at hJ hw
  subst hw
  refine aa0 [.e 0] rfl rfl (by simp) ?_
  simp
  have hpO := hJ
  try simp [pObs] at hpO
  refine af0 hpO ?_
  clear hpO
  simp +contextual (maxSteps := 2000000) (disch := omega) [-Int.not_lt, -Int.not_le, -Nat.not_lt, -Nat.not_le, sx]
  refine endP ?_
  simp +contextual (maxSteps := 2000000) (disch := omega) [-Int.not_lt, -Int.not_le, -Nat.not_lt, -Nat.not_le, sx, pObs, pAns]
 have q2 := aw0 hE q1.2 hx2
 rw [hx2] at hJ hw
 simp only [pAns, ar0, LxR.bind] at hJ hw
 refine aa0 [.e 0] rfl rfl (by simp) ?_
 simp
 have hpO := hJ
 try simp [pObs] at hpO
 refine ab0 14 hpO (by simp) ?_
 clear hpO
 simp +contextual (maxSteps := 2000000) (disch := omega) [-Int.not_lt, -Int.not_le, -Nat.not_lt, -Nat.not_le, sx]
 refine aH0 (fun y : Nat × Nat × Prg => y.1) (fun y => [(3, .bp (.l 3 0) 0), (2, .bp (.l 2 0) 0), (0, .bp (.e 0) 0)])
  (fun y => [(.e 0, .box [.lst (ts.map Tok.cells), vI y.2.1]), (.l 3 0, .box [vI y.2.2.version, .arr (.l 998 0) 0 y.2.2.states.length, .arr (.l 999 0) 0 y.2.2.fns.length]),
   (.l 998 0, .row ef0 3 true (y.2.2.states.map Slo.cells)), (.l 999 0, .row o20 7 true (y.2.2.fns.map Fun.cells)), (.l 2 0, .box [vI 0, .nil, .nil])])
  (fun y => y.1 <= F /\ y.2.1 < ts.length /\ y.2.2.states.length <= y.2.1 /\ y.2.2.fns.length <= y.2.1 /\ oo0 ts y.1 y.2.2 y.2.1 = R) (F, n2, ⟨v.num, [], []⟩) ⟨Nat.le_refl _, q2.2, by simp, by simp, hw⟩
  (Wk.trans (Wk.subs (by simp) (by simp)) (Wk.trans (Wk.rowB (b := .l 3 0) (id := .l 999 0) (off := 2) (ty := o20) (sz := 7) rfl rfl (by simp) (by simp)) (Wk.rowB (b := .l 3 0) (id := .l 998 0) (off := 1) (ty := ef0) (sz := 3) rfl rfl (by simp) (by simp)))) ?_
 rintro ⟨g, n', ⟨ver, sts, fns⟩⟩ ⟨hg, hn', ho1, ho2, hw⟩
 dsimp only at hg hn' ho1 ho2 hw
 obtain _ | g := g
 ·rw [oo0] at hw; subst hw; exact absurd rfl hlive
 rw [oo0] at hw
 simp +contextual (maxSteps := 2000000) (disch := omega) [-Int.not_lt, -Int.not_le, -Nat.not_lt, -Nat.not_le, sx]
 refine aa0 [.e 0] rfl rfl (by simp) ?_
 simp
 have hpO := aT0 hn'
 try simp [pObs] at hpO
 refine ab0 16 hpO (by simp) ?_
 clear hpO
 by_cases hk : (tk ts n').kind = 5
 ·rw [if_pos hk] at hw
  subst hw
  simp +contextual (maxSteps := 2000000) (disch := omega) [-Int.not_lt, -Int.not_le, -Nat.not_lt, -Nat.not_le, sx, hk]
  refine endR _ _ (Wk.refl _ _) [] (by simp) ?_
  simp +contextual (maxSteps := 2000000) (disch := omega) [-Int.not_lt, -Int.not_le, -Nat.not_lt, -Nat.not_le, sx, pObs, pAns, Prg.ac0]
 rw [if_neg hk] at hw
 simp +contextual (maxSteps := 2000000) (disch := omega) [-Int.not_lt, -Int.not_le, -Nat.not_lt, -Nat.not_le, sx, hk]
 refine aa0 [.e 0] rfl rfl (by simp) ?_
 simp
 have hpO := ag0 hn' hl 1 gr0
 try simp [pObs] at hpO
 refine ab0 23 hpO (by simp) ?_
 clear hpO
 cases h1 : isT ts n' 1 gr0 with
 | true =>
  have h0 := aM0 hE hn' h1 (by decide)
  rw [h1] at hw
  simp only [if_true] at hw
  simp +contextual (maxSteps := 2000000) (disch := omega) [-Int.not_lt, -Int.not_le, -Nat.not_lt, -Nat.not_le, sx]
  have hJ := h80 hE hl h0
  rcases hx3 : kI0 ts (n' + 1) with ⟨s, n3⟩ | ⟨a, e⟩
  rotate_left
  ·rw [hx3] at hJ hw
   simp only [pAns, ar0, LxR.bind] at hJ hw
   subst hw
   refine aP0 [.e 0] [.e 0] rfl rfl (by simp) ?_
   simp
   have hpO := hJ
   try simp [pObs] at hpO
   refine cv0 hpO ?_
   clear hpO
   simp +contextual (maxSteps := 2000000) (disch := omega) [-Int.not_lt, -Int.not_le, -Nat.not_lt, -Nat.not_le, sx]
   refine endP ?_
   simp +contextual (maxSteps := 2000000) (disch := omega) [-Int.not_lt, -Int.not_le, -Nat.not_lt, -Nat.not_le, sx, pObs, pAns]
  have q3 := mN0 hE h0 hx3
  rw [hx3] at hJ hw
  simp only [pAns, ar0, LxR.bind] at hJ hw
  refine aP0 [.e 0] [.e 0] rfl rfl (by simp) ?_
  simp
  have hpO := hJ
  try simp [pObs] at hpO
  refine bG0 27 hpO (by simp) ?_
  clear hpO
  simp +contextual (maxSteps := 2000000) (disch := omega) [-Int.not_lt, -Int.not_le, -Nat.not_lt, -Nat.not_le, sx]
  have hJ := am0 q3.2 hl [59]
  rcases hx4 : ba0 ts n3 [59] with n4 | ⟨a, e⟩
  rotate_left
  ·rw [hx4] at hJ hw
   simp only [pAns, ar0, LxR.bind] at hJ hw
   subst hw
   refine aa0 [.e 0] rfl rfl (by simp) ?_
   simp
   have hpO := hJ
   try simp [pObs] at hpO
   refine af0 hpO ?_
   clear hpO
   simp +contextual (maxSteps := 2000000) (disch := omega) [-Int.not_lt, -Int.not_le, -Nat.not_lt, -Nat.not_le, sx]
   refine endP ?_
   simp +contextual (maxSteps := 2000000) (disch := omega) [-Int.not_lt, -Int.not_le, -Nat.not_lt, -Nat.not_le, sx, pObs, pAns]
  have q4 := aw0 hE q3.2 hx4
  rw [hx4] at hJ hw
  simp only [pAns, ar0, LxR.bind] at hJ hw
  refine aa0 [.e 0] rfl rfl (by simp) ?_
  simp
  have hpO := hJ
  try simp [pObs] at hpO
  refine ab0 32 hpO (by simp) ?_
  clear hpO
  simp +contextual (maxSteps := 2000000) (disch := omega) [-Int.not_lt, -Int.not_le, -Nat.not_lt, -Nat.not_le, sx]
  refine .of (g, n4, ⟨ver, sts ++ [s], fns⟩) ⟨by dsimp only; omega, q4.2, by simp; omega, by dsimp only; omega, hw⟩ (by dsimp only; omega) (Wk.rens (.l 29 0) (.l 998 0) rfl (by simp) (by simp [renF]) (by simp [renF, bC0]))
 | false =>
 rw [h1] at hw
 simp only [Bool.false_eq_true, if_false] at hw
 simp +contextual (maxSteps := 2000000) (disch := omega) [-Int.not_lt, -Int.not_le, -Nat.not_lt, -Nat.not_le, sx]
 refine aa0 [.e 0] rfl rfl (by simp) ?_
 simp
 have hpO := ag0 hn' hl 1 kwFn
 try simp [pObs] at hpO
 refine ab0 35 hpO (by simp) ?_
 clear hpO
 cases h2 : isT ts n' 1 kwFn with
 | true =>
  have h0 := aM0 hE hn' h2 (by decide)
  rw [h2] at hw
  simp only [if_true] at hw
  simp +contextual (maxSteps := 2000000) (disch := omega) [-Int.not_lt, -Int.not_le, -Nat.not_lt, -Nat.not_le, sx]
  have hlv := hlive
  rw [<- hw] at hlv
  have hJ := fG0 hE hl g false h0 (LxR.aC0 hlv).1
  rcases hx3 : pFun ts g false (n' + 1) with ⟨s, n3⟩ | ⟨a, e⟩
  rotate_left
  ·rw [hx3] at hJ hw
   simp only [pAns, ar0, LxR.bind] at hJ hw
   subst hw
   refine aP0 [.e 0] [.e 0] rfl rfl (by simp) ?_
   simp
   have hpO := hJ
   try simp [pObs] at hpO
   refine cv0 hpO ?_
   clear hpO
   simp +contextual (maxSteps := 2000000) (disch := omega) [-Int.not_lt, -Int.not_le, -Nat.not_lt, -Nat.not_le, sx]
   refine endP ?_
   simp +contextual (maxSteps := 2000000) (disch := omega) [-Int.not_lt, -Int.not_le, -Nat.not_lt, -Nat.not_le, sx, pObs, pAns]
  have q3 := pFun_lt hE h0 hx3
  rw [hx3] at hJ hw
  simp only [pAns, ar0, LxR.bind] at hJ hw
  refine aP0 [.e 0] [.e 0] rfl rfl (by simp) ?_
  simp
  have hpO := hJ
  try simp [pObs] at hpO
  refine bG0 39 hpO (by simp) ?_
  clear hpO
  simp +contextual (maxSteps := 2000000) (disch := omega) [-Int.not_lt, -Int.not_le, -Nat.not_lt, -Nat.not_le, sx]
  refine .of (g, n3, ⟨ver, sts, fns ++ [s]⟩) ⟨by dsimp only; omega, q3.2, by dsimp only; omega, by simp; omega, hw⟩ (by dsimp only; omega) (Wk.rens (.l 41 0) (.l 999 0) rfl (by simp) (by simp [renF]) (by simp [renF, bC0]))
 | false =>
 rw [h2] at hw
 simp only [Bool.false_eq_true, if_false] at hw
 simp +contextual (maxSteps := 2000000) (disch := omega) [-Int.not_lt, -Int.not_le, -Nat.not_lt, -Nat.not_le, sx]
 refine aa0 [.e 0] rfl rfl (by simp) ?_
 simp
 have hpO := ag0 hn' hl 1 kwOn
 try simp [pObs] at hpO
 refine ab0 45 hpO (by simp) ?_
 clear hpO
 cases h3 : isT ts n' 1 kwOn with
 | true =>
  have h0 := aM0 hE hn' h3 (by decide)
  rw [h3] at hw
  simp only [if_true] at hw
  simp +contextual (maxSteps := 2000000) (disch := omega) [-Int.not_lt, -Int.not_le, -Nat.not_lt, -Nat.not_le, sx]
  have hlv := hlive
  rw [<- hw] at hlv
  have hJ := fG0 hE hl g true h0 (LxR.aC0 hlv).1
  rcases hx3 : pFun ts g true (n' + 1) with ⟨s, n3⟩ | ⟨a, e⟩
  rotate_left
  ·rw [hx3] at hJ hw
   simp only [pAns, ar0, LxR.bind] at hJ hw
   subst hw
   refine aP0 [.e 0] [.e 0] rfl rfl (by simp) ?_
   simp
   have hpO := hJ
   try simp [pObs] at hpO
   refine cv0 hpO ?_
   clear hpO
   simp +contextual (maxSteps := 2000000) (disch := omega) [-Int.not_lt, -Int.not_le, -Nat.not_lt, -Nat.not_le, sx]
   refine endP ?_
   simp +contextual (maxSteps := 2000000) (disch := omega) [-Int.not_lt, -Int.not_le, -Nat.not_lt, -Nat.not_le, sx, pObs, pAns]
  have q3 := pFun_lt hE h0 hx3
  rw [hx3] at hJ hw
  simp only [pAns, ar0, LxR.bind] at hJ hw
  refine aP0 [.e 0] [.e 0] rfl rfl (by simp) ?_
  simp
  have hpO := hJ
  try simp [pObs] at hpO
  refine bG0 49 hpO (by simp) ?_
  clear hpO
  simp +contextual (maxSteps := 2000000) (disch := omega) [-Int.not_lt, -Int.not_le, -Nat.not_lt, -Nat.not_le, sx]
  refine .of (g, n3, ⟨ver, sts, fns ++ [s]⟩) ⟨by dsimp only; omega, q3.2, by dsimp only; omega, by simp; omega, hw⟩ (by dsimp only; omega) (Wk.rens (.l 51 0) (.l 999 0) rfl (by simp) (by simp [renF]) (by simp [renF, bC0]))
 | false =>
 rw [h3] at hw
 simp only [Bool.false_eq_true, if_false, e40] at hw
 subst hw
 simp +contextual (maxSteps := 2000000) (disch := omega) [-Int.not_lt, -Int.not_le, -Nat.not_lt, -Nat.not_le, sx]
 refine aa0 [.e 0] rfl rfl (by simp) ?_
 simp
 have hpO := aN0 hn' 31
 try simp [pObs] at hpO
 refine af0 hpO ?_
 clear hpO
 simp +contextual (maxSteps := 2000000) (disch := omega) [-Int.not_lt, -Int.not_le, -Nat.not_lt, -Nat.not_le, sx]
 refine endP ?_
 simp +contextual (maxSteps := 2000000) (disch := omega) [-Int.not_lt, -Int.not_le, -Nat.not_lt, -Nat.not_le, sx, pObs, pAns]
theorem hT67 : liesAt prog prog.depth 67 (2 / prog.cellsOf 67) 0 67 1 = true := by kernel_rfl
def lJ0 (acc : List UInt8) : Hp :=
 match acc with
 | [] => [(.l 2 0, .box [.self (.l 2 0) 67, .nil])]
 | a :: l => [(.l 2 0, .box [.self (.l 2 0) 67, .arr (.l 999 0) 0 (l.length + 1)]), (.l 999 0, .row 5 1 true ((a :: l).map aR0))]
def iN0 (s : Bs) (i : Nat) : LxR (Int × Bs × Int × Nat) := match iO0 i (s.drop (i + 1)) (i + 1) [] with
 | .bad a e => .bad a e
 | .ok (t, j) => .ok (3, t, 0, j)
set_option maxHeartbeats 1600000 in
theorem mG0 (x : LxS) (i : Nat) (hx : x.at_ = i) (hi : i < x.s.size) (hs : x.s.size < 2 ^ 39) (ho : x.out.length <= 4096) :
  J prog ht0 [.bp (.e 0) 0] x.obs (· = x.after (iN0 (sB x.s) i)) := by
 obtain ⟨s, a, out⟩ := x
 dsimp only at hx hi hs ho ⊢
 subst hx
 have hz : s.size = (sB s).length := rfl
 refine aq0 j80 (by simp [LxS.obs]) ?_
 simp +contextual (maxSteps := 2000000) (disch := omega) [-Int.not_lt, -Int.not_le, -Nat.not_lt, -Nat.not_le, sx, gz0, LxS.obs, hpE]
 refine aH0 (fun y : Nat × List UInt8 => s.size - y.1) (fun y => [(3, vI y.1), (2, .bp (.l 2 0) 0), (0, .bp (.e 0) 0)])
  (fun y => (.e 0, .box [vS s, vI i, .arr (.e 1) 0 out.length]) :: (.e 1, .row bB0 4 true (out.map Tok.cells)) :: lJ0 y.2)
  (fun y => i < y.1 /\ y.1 <= s.size /\ y.2.length <= y.1 /\ iO0 i ((sB s).drop y.1) y.1 y.2 = iO0 i ((sB s).drop (i + 1)) (i + 1) []) (i + 1, []) ⟨by simp, by dsimp only; omega, by simp, rfl⟩ (Wk.subs (by simp) (by simp [lJ0])) ?_
 rintro ⟨j, acc⟩ ⟨hj0, hj, hacc, hv⟩
 dsimp only at hj0 hj hacc hv
 have key : (j < s.size /\ ∃ c, (sB s)[j]? = some c /\ (sB s).drop j = c :: (sB s).drop (j + 1)) \/ j = s.size := by
  rcases Nat.lt_or_ge j s.size with h | h
  ·exact .inl ⟨h, (sB s)[j], List.getElem?_eq_getElem (by omega), List.drop_eq_getElem_cons (by omega)⟩
  ·exact .inr (by omega)
 cases acc with
 | nil =>
  simp only [lJ0]
  rcases key with ⟨hl, c, hc, hd⟩ | rfl
  ·rw [hd, iO0.eq_def] at hv
   simp only at hv
   have hc' : s.data[j]? = some c := by simpa [sB] using hc
   by_cases h34 : c = 34
   ·subst h34
    simp +contextual (maxSteps := 2000000) (disch := omega) [-Int.not_lt, -Int.not_le, -Nat.not_lt, -Nat.not_le, sx, hc']
    refine aa0 [.l 2 0] rfl rfl (by simp) ?_
    simp
    have hpO := kV0 67
    try simp [LxS.obs, LxS.obs', Tok.ac0, ae0, ad0, au0, bldObsX] at hpO
    refine ab0 28 hpO (by simp) ?_
    clear hpO
    simp +contextual (maxSteps := 2000000) (disch := omega) [-Int.not_lt, -Int.not_le, -Nat.not_lt, -Nat.not_le, sx]
    refine aa0 [.l 2 0] rfl rfl (by simp) ?_
    simp
    have hpO := Builder_String_nil 67
    try simp [LxS.obs, LxS.obs', Tok.ac0, ae0, ad0, au0, bldObsX] at hpO
    refine ab0 37 hpO (by simp) ?_
    clear hpO
    rw [if_pos rfl, if_neg (by simp)] at hv
    simp +contextual (maxSteps := 2000000) (disch := omega) [-Int.not_lt, -Int.not_le, -Nat.not_lt, -Nat.not_le, sx]
    rw [iN0, <- hv]
    by_cases hfull : 4096 <= out.length
    ·refine aa0 [.e 0, .e 1] rfl rfl (by simp) ?_
     simp
     have hpO := db0 ⟨s, i, out⟩ ⟨3, bS [], 0, 0⟩ (j + 1) hfull (by dsimp only; omega)
     try simp [LxS.obs, LxS.obs', Tok.ac0, ae0, ad0, au0, bldObsX] at hpO
     refine af0 hpO ?_
     clear hpO
     simp +contextual (maxSteps := 2000000) (disch := omega) [-Int.not_lt, -Int.not_le, -Nat.not_lt, -Nat.not_le, sx]
     refine endP ?_
     simp +contextual (maxSteps := 2000000) (disch := omega) [-Int.not_lt, -Int.not_le, -Nat.not_lt, -Nat.not_le, sx, LxS.after, LxS.obs, hfull]
    ·refine aa0 [.e 0, .e 1] rfl rfl (by simp) ?_
     simp
     have hpO := eb0 ⟨s, i, out⟩ ⟨3, bS [], 0, 0⟩ (j + 1) (by dsimp only; omega)
     try simp [LxS.obs, LxS.obs', Tok.ac0, ae0, ad0, au0, bldObsX] at hpO
     refine ab0 41 hpO (by simp) ?_
     clear hpO
     simp +contextual (maxSteps := 2000000) (disch := omega) [-Int.not_lt, -Int.not_le, -Nat.not_lt, -Nat.not_le, sx]
     refine endR _ _ (Wk.refl _ _) [.l 41 0] (by simp) ?_
     simp +contextual (maxSteps := 2000000) (disch := omega) [-Int.not_lt, -Int.not_le, -Nat.not_lt, -Nat.not_le, sx, LxS.after, LxS.obs', hfull, Tok.ac0]
   rw [if_neg h34] at hv
   have n34 : ¬ (c.toNat : Int) = 34 := fun h => h34 (UInt8.toNat_inj.1 (by exact_mod_cast h))
   by_cases hctl : c < 32 \/ 126 < c
   ·rw [if_pos hctl] at hv
    have hctl' : (c.toNat : Int) < 32 \/ 126 < (c.toNat : Int) := by
     rcases hctl with h | h
     ·left; have := UInt8.lt_iff_toNat_lt.1 h; simp at this; omega
     ·right; have := UInt8.lt_iff_toNat_lt.1 h; simp at this; omega
    simp +contextual (maxSteps := 2000000) (disch := omega) [-Int.not_lt, -Int.not_le, -Nat.not_lt, -Nat.not_le, sx, hc', n34]
    refine ⟨fun h => ?_, fun h => ?_⟩
    all_goals first | (exfalso; omega) | skip
    all_goals
     refine aa0 [.e 0, .e 1] rfl rfl (by simp) ?_
     simp
     have hpO := aL0 ⟨s, i, out⟩ j 30
     try simp [LxS.obs, LxS.obs', Tok.ac0, ae0, ad0, au0, bldObsX] at hpO
     refine af0 hpO ?_
     clear hpO
     simp +contextual (maxSteps := 2000000) (disch := omega) [-Int.not_lt, -Int.not_le, -Nat.not_lt, -Nat.not_le, sx]
     refine endP ?_
     rw [iN0, <- hv]
     simp +contextual (maxSteps := 2000000) (disch := omega) [-Int.not_lt, -Int.not_le, -Nat.not_lt, -Nat.not_le, sx, LxS.after, LxS.obs]
   rw [if_neg hctl] at hv
   have c32 : ¬ (c.toNat : Int) < 32 := fun h => hctl (.inl (UInt8.lt_iff_toNat_lt.2 (by simp; omega)))
   have c126 : ¬ 126 < (c.toNat : Int) := fun h => hctl (.inr (UInt8.lt_iff_toNat_lt.2 (by simp; omega)))
   by_cases h92 : c = 92
   ·subst h92
    rw [if_pos rfl] at hv
    rcases Nat.lt_or_ge (j + 1) s.size with hl2 | hl2
    ·obtain ⟨d, hd1, hd2⟩ : ∃ d, s.data[j + 1]? = some d /\ (sB s).drop (j + 1) = d :: (sB s).drop (j + 2) :=
      ⟨(sB s)[j + 1]'(by omega), by simp [sB], List.drop_eq_getElem_cons (by omega)⟩
     rw [hd2] at hv
     simp only at hv
     by_cases hq : d = 34 \/ d = 92
     ·rw [if_pos hq] at hv
      rcases hq with rfl | rfl
      ·simp +contextual (maxSteps := 2000000) (disch := omega) [-Int.not_lt, -Int.not_le, -Nat.not_lt, -Nat.not_le, sx, hc', hd1]
       refine aa0 [.l 2 0] rfl rfl (by simp) ?_
       simp
       have hpO := cH0 67 34 hT67
       try simp [LxS.obs, LxS.obs', Tok.ac0, ae0, ad0, au0, bldObsX] at hpO
       refine ab0 93 hpO (by simp) ?_
       clear hpO
       simp +contextual (maxSteps := 2000000) (disch := omega) [-Int.not_lt, -Int.not_le, -Nat.not_lt, -Nat.not_le, sx]
       refine .of (j + 2, [34]) ⟨by dsimp only; omega, by dsimp only; omega, by simp, hv⟩ (by dsimp only; omega) (Wk.rens (.l 93 0) (.l 999 0) rfl (by simp) (by simp [renF, lJ0]; omega) (by simp [renF, bC0]))
      ·simp +contextual (maxSteps := 2000000) (disch := omega) [-Int.not_lt, -Int.not_le, -Nat.not_lt, -Nat.not_le, sx, hc', hd1]
       refine aa0 [.l 2 0] rfl rfl (by simp) ?_
       simp
       have hpO := cH0 67 92 hT67
       try simp [LxS.obs, LxS.obs', Tok.ac0, ae0, ad0, au0, bldObsX] at hpO
       refine ab0 93 hpO (by simp) ?_
       clear hpO
       simp +contextual (maxSteps := 2000000) (disch := omega) [-Int.not_lt, -Int.not_le, -Nat.not_lt, -Nat.not_le, sx]
       refine .of (j + 2, [92]) ⟨by dsimp only; omega, by dsimp only; omega, by simp, hv⟩ (by dsimp only; omega) (Wk.rens (.l 93 0) (.l 999 0) rfl (by simp) (by simp [renF, lJ0]; omega) (by simp [renF, bC0]))
     ·rw [if_neg hq] at hv
      have q34 : ¬ (d.toNat : Int) = 34 := fun h => hq (.inl (UInt8.toNat_inj.1 (by exact_mod_cast h)))
      have q92 : ¬ (d.toNat : Int) = 92 := fun h => hq (.inr (UInt8.toNat_inj.1 (by exact_mod_cast h)))
      simp +contextual (maxSteps := 2000000) (disch := omega) [-Int.not_lt, -Int.not_le, -Nat.not_lt, -Nat.not_le, sx, hc', hd1, q34, q92]
      refine aa0 [.e 0, .e 1] rfl rfl (by simp) ?_
      simp
      have hpO := aL0 ⟨s, i, out⟩ j 30
      try simp [LxS.obs, LxS.obs', Tok.ac0, ae0, ad0, au0, bldObsX] at hpO
      refine af0 hpO ?_
      clear hpO
      simp +contextual (maxSteps := 2000000) (disch := omega) [-Int.not_lt, -Int.not_le, -Nat.not_lt, -Nat.not_le, sx]
      refine endP ?_
      rw [iN0, <- hv]
      simp +contextual (maxSteps := 2000000) (disch := omega) [-Int.not_lt, -Int.not_le, -Nat.not_lt, -Nat.not_le, sx, LxS.after, LxS.obs]
    ·rw [List.drop_of_length_le (by omega)] at hv
     simp only at hv
     simp +contextual (maxSteps := 2000000) (disch := omega) [-Int.not_lt, -Int.not_le, -Nat.not_lt, -Nat.not_le, sx, hc']
     refine aa0 [.e 0, .e 1] rfl rfl (by simp) ?_
     simp
     have hpO := aL0 ⟨s, i, out⟩ j 30
     try simp [LxS.obs, LxS.obs', Tok.ac0, ae0, ad0, au0, bldObsX] at hpO
     refine af0 hpO ?_
     clear hpO
     simp +contextual (maxSteps := 2000000) (disch := omega) [-Int.not_lt, -Int.not_le, -Nat.not_lt, -Nat.not_le, sx]
     refine endP ?_
     rw [iN0, <- hv]
     simp +contextual (maxSteps := 2000000) (disch := omega) [-Int.not_lt, -Int.not_le, -Nat.not_lt, -Nat.not_le, sx, LxS.after, LxS.obs]
   ·rw [if_neg h92] at hv
    have n92 : ¬ (c.toNat : Int) = 92 := fun h => h92 (UInt8.toNat_inj.1 (by exact_mod_cast h))
    simp +contextual (maxSteps := 2000000) (disch := omega) [-Int.not_lt, -Int.not_le, -Nat.not_lt, -Nat.not_le, sx, hc', n34, n92, c32, c126]
    refine aa0 [.l 2 0] rfl rfl (by simp) ?_
    simp
    have hpO := cH0 67 c hT67
    try simp [LxS.obs, LxS.obs', Tok.ac0, ae0, ad0, au0, bldObsX] at hpO
    refine ab0 93 hpO (by simp) ?_
    clear hpO
    simp +contextual (maxSteps := 2000000) (disch := omega) [-Int.not_lt, -Int.not_le, -Nat.not_lt, -Nat.not_le, sx]
    refine .of (j + 1, [c]) ⟨by dsimp only; omega, by dsimp only; omega, by simp, hv⟩ (by dsimp only; omega) (Wk.rens (.l 93 0) (.l 999 0) rfl (by simp) (by simp [renF, lJ0]) (by simp [renF, bC0]))
  ·rw [List.drop_of_length_le (by omega), iO0] at hv
   simp +contextual (maxSteps := 2000000) (disch := omega) [-Int.not_lt, -Int.not_le, -Nat.not_lt, -Nat.not_le, sx]
   rw [iN0, <- hv]
   refine aa0 [.e 0, .e 1] rfl rfl (by simp) ?_
   simp
   have hpO := aL0 ⟨s, i, out⟩ i 30
   try simp [LxS.obs, LxS.obs', Tok.ac0, ae0, ad0, au0, bldObsX] at hpO
   refine af0 hpO ?_
   clear hpO
   simp +contextual (maxSteps := 2000000) (disch := omega) [-Int.not_lt, -Int.not_le, -Nat.not_lt, -Nat.not_le, sx]
   refine endP ?_
   simp +contextual (maxSteps := 2000000) (disch := omega) [-Int.not_lt, -Int.not_le, -Nat.not_lt, -Nat.not_le, sx, LxS.after, LxS.obs]
 | cons b l =>
  simp only [lJ0]
  rcases key with ⟨hl, c, hc, hd⟩ | rfl
  ·rw [hd, iO0.eq_def] at hv
   simp only at hv
   have hc' : s.data[j]? = some c := by simpa [sB] using hc
   have hbl : (b :: l).length <= j := hacc
   by_cases h34 : c = 34
   ·subst h34
    simp +contextual (maxSteps := 2000000) (disch := omega) [-Int.not_lt, -Int.not_le, -Nat.not_lt, -Nat.not_le, sx, hc']
    refine aa0 [.l 2 0, .l 999 0] rfl rfl (by simp) ?_
    simp
    have hpO := hg0 67 (b :: l)
    try simp [LxS.obs, LxS.obs', Tok.ac0, ae0, ad0, au0, bldObsX] at hpO
    refine ab0 28 hpO (by simp) ?_
    clear hpO
    simp +contextual (maxSteps := 2000000) (disch := omega) [-Int.not_lt, -Int.not_le, -Nat.not_lt, -Nat.not_le, sx]
    rw [if_pos rfl] at hv
    by_cases hlong : (b :: l).length > 256
    ·rw [if_pos hlong] at hv
     have hlong' : 256 < l.length + 1 := hlong
     simp +contextual (maxSteps := 2000000) (disch := omega) [-Int.not_lt, -Int.not_le, -Nat.not_lt, -Nat.not_le, sx, hlong']
     refine aa0 [.e 0, .e 1] rfl rfl (by simp) ?_
     simp
     have hpO := aL0 ⟨s, i, out⟩ i 3
     try simp [LxS.obs, LxS.obs', Tok.ac0, ae0, ad0, au0, bldObsX] at hpO
     refine af0 hpO ?_
     clear hpO
     simp +contextual (maxSteps := 2000000) (disch := omega) [-Int.not_lt, -Int.not_le, -Nat.not_lt, -Nat.not_le, sx]
     refine endP ?_
     rw [iN0, <- hv]
     simp +contextual (maxSteps := 2000000) (disch := omega) [-Int.not_lt, -Int.not_le, -Nat.not_lt, -Nat.not_le, sx, LxS.after, LxS.obs]
    rw [if_neg hlong] at hv
    have hlong' : ¬ 256 < l.length + 1 := hlong
    simp +contextual (maxSteps := 2000000) (disch := omega) [-Int.not_lt, -Int.not_le, -Nat.not_lt, -Nat.not_le, sx, hlong']
    refine aa0 [.l 2 0, .l 999 0] rfl rfl (by simp) ?_
    simp
    have hpO := Builder_String_spec 67 (b :: l) (by simp)
    try simp [LxS.obs, LxS.obs', Tok.ac0, ae0, ad0, au0, bldObsX] at hpO
    refine ab0 37 hpO (by simp) ?_
    clear hpO
    simp +contextual (maxSteps := 2000000) (disch := omega) [-Int.not_lt, -Int.not_le, -Nat.not_lt, -Nat.not_le, sx]
    rw [iN0, <- hv]
    by_cases hfull : 4096 <= out.length
    ·refine aa0 [.e 0, .e 1] rfl rfl (by simp) ?_
     simp
     have hpO := db0 ⟨s, i, out⟩ ⟨3, bS (b :: l), 0, 0⟩ (j + 1) hfull (by dsimp only; omega)
     try simp [LxS.obs, LxS.obs', Tok.ac0, ae0, ad0, au0, bldObsX] at hpO
     refine af0 hpO ?_
     clear hpO
     simp +contextual (maxSteps := 2000000) (disch := omega) [-Int.not_lt, -Int.not_le, -Nat.not_lt, -Nat.not_le, sx]
     refine endP ?_
     simp +contextual (maxSteps := 2000000) (disch := omega) [-Int.not_lt, -Int.not_le, -Nat.not_lt, -Nat.not_le, sx, LxS.after, LxS.obs, hfull]
    ·refine aa0 [.e 0, .e 1] rfl rfl (by simp) ?_
     simp
     have hpO := eb0 ⟨s, i, out⟩ ⟨3, bS (b :: l), 0, 0⟩ (j + 1) (by dsimp only; omega)
     try simp [LxS.obs, LxS.obs', Tok.ac0, ae0, ad0, au0, bldObsX] at hpO
     refine ab0 41 hpO (by simp) ?_
     clear hpO
     simp +contextual (maxSteps := 2000000) (disch := omega) [-Int.not_lt, -Int.not_le, -Nat.not_lt, -Nat.not_le, sx]
     refine endR _ _ (Wk.refl _ _) [.l 41 0] (by simp) ?_
     simp +contextual (maxSteps := 2000000) (disch := omega) [-Int.not_lt, -Int.not_le, -Nat.not_lt, -Nat.not_le, sx, LxS.after, LxS.obs', hfull, Tok.ac0]
   rw [if_neg h34] at hv
   have n34 : ¬ (c.toNat : Int) = 34 := fun h => h34 (UInt8.toNat_inj.1 (by exact_mod_cast h))
   by_cases hctl : c < 32 \/ 126 < c
   ·rw [if_pos hctl] at hv
    have hctl' : (c.toNat : Int) < 32 \/ 126 < (c.toNat : Int) := by
     rcases hctl with h | h
     ·left; have := UInt8.lt_iff_toNat_lt.1 h; simp at this; omega
     ·right; have := UInt8.lt_iff_toNat_lt.1 h; simp at this; omega
    simp +contextual (maxSteps := 2000000) (disch := omega) [-Int.not_lt, -Int.not_le, -Nat.not_lt, -Nat.not_le, sx, hc', n34]
    refine ⟨fun h => ?_, fun h => ?_⟩
    all_goals first | (exfalso; omega) | skip
    all_goals
     refine aa0 [.e 0, .e 1] rfl rfl (by simp) ?_
     simp
     have hpO := aL0 ⟨s, i, out⟩ j 30
     try simp [LxS.obs, LxS.obs', Tok.ac0, ae0, ad0, au0, bldObsX] at hpO
     refine af0 hpO ?_
     clear hpO
     simp +contextual (maxSteps := 2000000) (disch := omega) [-Int.not_lt, -Int.not_le, -Nat.not_lt, -Nat.not_le, sx]
     refine endP ?_
     rw [iN0, <- hv]
     simp +contextual (maxSteps := 2000000) (disch := omega) [-Int.not_lt, -Int.not_le, -Nat.not_lt, -Nat.not_le, sx, LxS.after, LxS.obs]
   rw [if_neg hctl] at hv
   have c32 : ¬ (c.toNat : Int) < 32 := fun h => hctl (.inl (UInt8.lt_iff_toNat_lt.2 (by simp; omega)))
   have c126 : ¬ 126 < (c.toNat : Int) := fun h => hctl (.inr (UInt8.lt_iff_toNat_lt.2 (by simp; omega)))
   by_cases h92 : c = 92
   ·subst h92
    rw [if_pos rfl] at hv
    rcases Nat.lt_or_ge (j + 1) s.size with hl2 | hl2
    ·obtain ⟨d, hd1, hd2⟩ : ∃ d, s.data[j + 1]? = some d /\ (sB s).drop (j + 1) = d :: (sB s).drop (j + 2) :=
      ⟨(sB s)[j + 1]'(by omega), by simp [sB], List.drop_eq_getElem_cons (by omega)⟩
     rw [hd2] at hv
     simp only at hv
     by_cases hq : d = 34 \/ d = 92
     ·rw [if_pos hq] at hv
      rcases hq with rfl | rfl
      ·simp +contextual (maxSteps := 2000000) (disch := omega) [-Int.not_lt, -Int.not_le, -Nat.not_lt, -Nat.not_le, sx, hc', hd1]
       refine aa0 [.l 2 0, .l 999 0] rfl rfl (by simp) ?_
       simp
       have hpO := cy0 67 (b :: l) 34 hT67 (by omega)
       try simp [LxS.obs, LxS.obs', Tok.ac0, ae0, ad0, au0, bldObsX] at hpO
       refine ab0 93 hpO (by simp) ?_
       clear hpO
       simp +contextual (maxSteps := 2000000) (disch := omega) [-Int.not_lt, -Int.not_le, -Nat.not_lt, -Nat.not_le, sx]
       refine .of (j + 2, b :: l ++ [34]) ⟨by dsimp only; omega, by dsimp only; omega, by simp at hbl ⊢; omega, hv⟩ (by dsimp only; omega) (Wk.rens (.l 93 0) (.l 999 0) rfl (by simp) (by simp [renF, lJ0]; omega) (by simp [renF, bC0]))
      ·simp +contextual (maxSteps := 2000000) (disch := omega) [-Int.not_lt, -Int.not_le, -Nat.not_lt, -Nat.not_le, sx, hc', hd1]
       refine aa0 [.l 2 0, .l 999 0] rfl rfl (by simp) ?_
       simp
       have hpO := cy0 67 (b :: l) 92 hT67 (by omega)
       try simp [LxS.obs, LxS.obs', Tok.ac0, ae0, ad0, au0, bldObsX] at hpO
       refine ab0 93 hpO (by simp) ?_
       clear hpO
       simp +contextual (maxSteps := 2000000) (disch := omega) [-Int.not_lt, -Int.not_le, -Nat.not_lt, -Nat.not_le, sx]
       refine .of (j + 2, b :: l ++ [92]) ⟨by dsimp only; omega, by dsimp only; omega, by simp at hbl ⊢; omega, hv⟩ (by dsimp only; omega) (Wk.rens (.l 93 0) (.l 999 0) rfl (by simp) (by simp [renF, lJ0]; omega) (by simp [renF, bC0]))
     ·rw [if_neg hq] at hv
      have q34 : ¬ (d.toNat : Int) = 34 := fun h => hq (.inl (UInt8.toNat_inj.1 (by exact_mod_cast h)))
      have q92 : ¬ (d.toNat : Int) = 92 := fun h => hq (.inr (UInt8.toNat_inj.1 (by exact_mod_cast h)))
      simp +contextual (maxSteps := 2000000) (disch := omega) [-Int.not_lt, -Int.not_le, -Nat.not_lt, -Nat.not_le, sx, hc', hd1, q34, q92]
      refine aa0 [.e 0, .e 1] rfl rfl (by simp) ?_
      simp
      have hpO := aL0 ⟨s, i, out⟩ j 30
      try simp [LxS.obs, LxS.obs', Tok.ac0, ae0, ad0, au0, bldObsX] at hpO
      refine af0 hpO ?_
      clear hpO
      simp +contextual (maxSteps := 2000000) (disch := omega) [-Int.not_lt, -Int.not_le, -Nat.not_lt, -Nat.not_le, sx]
      refine endP ?_
      rw [iN0, <- hv]
      simp +contextual (maxSteps := 2000000) (disch := omega) [-Int.not_lt, -Int.not_le, -Nat.not_lt, -Nat.not_le, sx, LxS.after, LxS.obs]
    ·rw [List.drop_of_length_le (by omega)] at hv
     simp only at hv
     simp +contextual (maxSteps := 2000000) (disch := omega) [-Int.not_lt, -Int.not_le, -Nat.not_lt, -Nat.not_le, sx, hc']
     refine aa0 [.e 0, .e 1] rfl rfl (by simp) ?_
     simp
     have hpO := aL0 ⟨s, i, out⟩ j 30
     try simp [LxS.obs, LxS.obs', Tok.ac0, ae0, ad0, au0, bldObsX] at hpO
     refine af0 hpO ?_
     clear hpO
     simp +contextual (maxSteps := 2000000) (disch := omega) [-Int.not_lt, -Int.not_le, -Nat.not_lt, -Nat.not_le, sx]
     refine endP ?_
     rw [iN0, <- hv]
     simp +contextual (maxSteps := 2000000) (disch := omega) [-Int.not_lt, -Int.not_le, -Nat.not_lt, -Nat.not_le, sx, LxS.after, LxS.obs]
   ·rw [if_neg h92] at hv
    have n92 : ¬ (c.toNat : Int) = 92 := fun h => h92 (UInt8.toNat_inj.1 (by exact_mod_cast h))
    simp +contextual (maxSteps := 2000000) (disch := omega) [-Int.not_lt, -Int.not_le, -Nat.not_lt, -Nat.not_le, sx, hc', n34, n92, c32, c126]
    refine aa0 [.l 2 0, .l 999 0] rfl rfl (by simp) ?_
    simp
    have hpO := cy0 67 (b :: l) c hT67 (by omega)
    try simp [LxS.obs, LxS.obs', Tok.ac0, ae0, ad0, au0, bldObsX] at hpO
    refine ab0 93 hpO (by simp) ?_
    clear hpO
    simp +contextual (maxSteps := 2000000) (disch := omega) [-Int.not_lt, -Int.not_le, -Nat.not_lt, -Nat.not_le, sx]
    refine .of (j + 1, b :: l ++ [c]) ⟨by dsimp only; omega, by dsimp only; omega, by simp at hbl ⊢; omega, hv⟩ (by dsimp only; omega) (Wk.rens (.l 93 0) (.l 999 0) rfl (by simp) (by simp [renF, lJ0]) (by simp [renF, bC0]))
  ·rw [List.drop_of_length_le (by omega), iO0] at hv
   simp +contextual (maxSteps := 2000000) (disch := omega) [-Int.not_lt, -Int.not_le, -Nat.not_lt, -Nat.not_le, sx]
   rw [iN0, <- hv]
   refine aa0 [.e 0, .e 1] rfl rfl (by simp) ?_
   simp
   have hpO := aL0 ⟨s, i, out⟩ i 30
   try simp [LxS.obs, LxS.obs', Tok.ac0, ae0, ad0, au0, bldObsX] at hpO
   refine af0 hpO ?_
   clear hpO
   simp +contextual (maxSteps := 2000000) (disch := omega) [-Int.not_lt, -Int.not_le, -Nat.not_lt, -Nat.not_le, sx]
   refine endP ?_
   simp +contextual (maxSteps := 2000000) (disch := omega) [-Int.not_lt, -Int.not_le, -Nat.not_lt, -Nat.not_le, sx, LxS.after, LxS.obs]
theorem kG0 : Ret prog jw0 [] (.lst (cb0.map fun m => [vS (bS m)])) := by
 refine de0 lN0 (by simp) ?_
 simp +contextual (maxSteps := 2000000) (disch := omega) [-Int.not_lt, -Int.not_le, -Nat.not_lt, -Nat.not_le, sx, iQ0, cb0]
theorem LxS.kX0 (x : LxS) (R : LxR (Int × Bs × Int × Nat)) : (∃ a e, x.after R = .pan (oK0 a e) x.obs) \/ ∃ y : LxS, x.after R = .ret (.tup []) y.obs' := by
 unfold LxS.after
 split
 ·exact .inl ⟨_, _, rfl⟩
 ·split
  ·exact .inl ⟨_, _, rfl⟩
  ·exact .inr ⟨_, rfl⟩
theorem mI0 {s : Bs} {i : Nat} {c : UInt8} (h : s[i]? = some c) : lm0 s i =
  if ay0.contains c then
   (if bb0 (ay0 ++ ak0) s i - i > 16 then .bad i 3 else .ok (1, (s.drop i).take (bb0 (ay0 ++ ak0) s i - i), 0, bb0 (ay0 ++ ak0) s i))
  else if ak0.contains c then numR s i
  else if c = 34 then iN0 s i
  else if cb0.contains ((s.drop i).take 2) then .ok (4, (s.drop i).take 2, 0, i + 2)
  else if cP0.contains c then .ok (4, [c], 0, i + 1)
  else .bad i 30 := by
 unfold lm0
 rw [h]
 simp only [numR, h, Option.some.injEq]
 rfl
theorem pN0 {m l : Bs} (hm : m.length = 2) : m.isPrefixOf l = decide (l.take 2 = m) := by
 rw [Bool.eq_iff_iff, decide_eq_true_eq, List.isPrefixOf_iff_prefix, List.prefix_iff_eq_take, hm]
 exact ⟨Eq.symm, Eq.symm⟩
theorem jK0 : ∀ m ∈ cb0, m.length = 2 := by decide
set_option maxHeartbeats 1600000 in
theorem nx0 (x : LxS) (i : Nat) (hx : x.at_ = i) (hi : i < x.s.size) (hs : x.s.size < 2 ^ 39) (ho : x.out.length <= 4096) :
  J prog hQ0 [.bp (.e 0) 0] x.obs (· = x.after (lm0 (sB x.s) i)) := by
 obtain ⟨s, a, out⟩ := x
 dsimp only at hx hi hs ho ⊢
 subst hx
 have hz : s.size = (sB s).length := rfl
 have hget : (sB s)[i]? = some (sB s)[i] := List.getElem?_eq_getElem (by omega)
 generalize hc : (sB s)[i] = c at *
 have hc' : s.data[i]? = some c := by simpa [sB] using hget
 refine aq0 kF0 (by simp [LxS.obs]) ?_
 have hone := mI0 hget
 simp +contextual (maxSteps := 2000000) (disch := omega) [-Int.not_lt, -Int.not_le, -Nat.not_lt, -Nat.not_le, sx, hn0, LxS.obs, hpE, hc']
 refine ai0 ?_; simp; refine ah0 (aF0 ⟨⟨ay0⟩⟩ c) (by simp) ?_
 rw [show sB ⟨⟨ay0⟩⟩ = ay0 from rfl]
 have hm1 := bP0 ay0 c
 by_cases h1 : ay0.contains c = true
 ·rw [if_pos h1] at hone
  have hI := hm1.2 h1
  simp +contextual (maxSteps := 2000000) (disch := omega) [-Int.not_lt, -Int.not_le, -Nat.not_lt, -Nat.not_le, sx, hI]
  refine aa0 [.e 0, .e 1] rfl rfl (by simp) ?_
  simp
  have hpO := h20 ⟨s, i, out⟩ ⟨⟨ay0 ++ ak0⟩⟩ i rfl (by dsimp only; omega)
  try simp [LxS.obs, LxS.obs', Tok.ac0] at hpO
  refine ab0 20 hpO (by simp) ?_
  clear hpO
  rw [show sB ⟨⟨ay0 ++ ak0⟩⟩ = ay0 ++ ak0 from rfl]
  have hge := is0 (ay0 ++ ak0) (sB s) i
  have hle : bb0 (ay0 ++ ak0) (sB s) i <= s.size := it0 (by omega)
  generalize hp : bb0 (ay0 ++ ak0) (sB s) i = p at *
  by_cases h16 : p - i > 16
  ·rw [if_pos h16] at hone
   rw [hone]
   have h16' : (16 : Int) < (p : Int) - i := by omega
   simp +contextual (maxSteps := 2000000) (disch := omega) [-Int.not_lt, -Int.not_le, -Nat.not_lt, -Nat.not_le, sx, h16']
   refine aa0 [.e 0, .e 1] rfl rfl (by simp) ?_
   simp
   have hpO := aL0 ⟨s, i, out⟩ i 3
   try simp [LxS.obs, LxS.obs', Tok.ac0] at hpO
   refine af0 hpO ?_
   clear hpO
   simp +contextual (maxSteps := 2000000) (disch := omega) [-Int.not_lt, -Int.not_le, -Nat.not_lt, -Nat.not_le, sx]
   refine endP ?_
   simp +contextual (maxSteps := 2000000) (disch := omega) [-Int.not_lt, -Int.not_le, -Nat.not_lt, -Nat.not_le, sx, LxS.after, LxS.obs]
  ·rw [if_neg h16] at hone
   rw [hone]
   have h16' : ¬ (16 : Int) < (p : Int) - i := by omega
   simp +contextual (maxSteps := 2000000) (disch := omega) [-Int.not_lt, -Int.not_le, -Nat.not_lt, -Nat.not_le, sx, h16']
   by_cases hfull : 4096 <= out.length
   ·refine aa0 [.e 0, .e 1] rfl rfl (by simp) ?_
    simp
    have hpO := db0 ⟨s, i, out⟩ ⟨1, s.extract i p, 0, 0⟩ p hfull (by dsimp only; omega)
    try simp [LxS.obs, LxS.obs', Tok.ac0] at hpO
    refine af0 hpO ?_
    clear hpO
    simp +contextual (maxSteps := 2000000) (disch := omega) [-Int.not_lt, -Int.not_le, -Nat.not_lt, -Nat.not_le, sx]
    refine endP ?_
    simp +contextual (maxSteps := 2000000) (disch := omega) [-Int.not_lt, -Int.not_le, -Nat.not_lt, -Nat.not_le, sx, LxS.after, LxS.obs, hfull]
   ·refine aa0 [.e 0, .e 1] rfl rfl (by simp) ?_
    simp
    have hpO := eb0 ⟨s, i, out⟩ ⟨1, s.extract i p, 0, 0⟩ p (by dsimp only; omega)
    try simp [LxS.obs, LxS.obs', Tok.ac0] at hpO
    refine ab0 47 hpO (by simp) ?_
    clear hpO
    simp +contextual (maxSteps := 2000000) (disch := omega) [-Int.not_lt, -Int.not_le, -Nat.not_lt, -Nat.not_le, sx]
    refine endR _ _ (Wk.refl _ _) [.l 47 0] (by simp) ?_
    have hx : bS (((sB s).drop i).take (p - i)) = s.extract i p := by rw [<- dn0]
    simp +contextual (maxSteps := 2000000) (disch := omega) [-Int.not_lt, -Int.not_le, -Nat.not_lt, -Nat.not_le, sx, LxS.after, LxS.obs', hfull, Tok.ac0, hx]
 rw [if_neg h1] at hone
 have hI : ¬ 0 <= Lib.indexByte ay0 c := fun h => h1 (hm1.1 h)
 simp +contextual (maxSteps := 2000000) (disch := omega) [-Int.not_lt, -Int.not_le, -Nat.not_lt, -Nat.not_le, sx, hI]
 refine ai0 ?_; simp; refine ah0 (aF0 ⟨⟨ak0⟩⟩ c) (by simp) ?_
 rw [show sB ⟨⟨ak0⟩⟩ = ak0 from rfl]
 have hm2 := bP0 ak0 c
 by_cases h2 : ak0.contains c = true
 ·rw [if_pos h2] at hone
  have hI2 := hm2.2 h2
  have hJ := lk0 ⟨s, i, out⟩ i rfl hi (by dsimp only; omega) ho
  rw [hone]
  dsimp only at hJ
  rcases LxS.kX0 ⟨s, i, out⟩ (numR (sB s) i) with ⟨a, e, hR⟩ | ⟨y, hR⟩
  ·rw [hR] at hJ ⊢
   simp +contextual (maxSteps := 2000000) (disch := omega) [-Int.not_lt, -Int.not_le, -Nat.not_lt, -Nat.not_le, sx, hI2]
   refine aa0 [.e 0, .e 1] rfl rfl (by simp) ?_
   simp
   have hpO := hJ
   try simp [LxS.obs, LxS.obs', Tok.ac0] at hpO
   refine af0 hpO ?_
   clear hpO
   simp +contextual (maxSteps := 2000000) (disch := omega) [-Int.not_lt, -Int.not_le, -Nat.not_lt, -Nat.not_le, sx]
   refine endP ?_
   simp +contextual (maxSteps := 2000000) (disch := omega) [-Int.not_lt, -Int.not_le, -Nat.not_lt, -Nat.not_le, sx, LxS.obs]
  ·rw [hR] at hJ ⊢
   simp +contextual (maxSteps := 2000000) (disch := omega) [-Int.not_lt, -Int.not_le, -Nat.not_lt, -Nat.not_le, sx, hI2]
   refine aa0 [.e 0, .e 1] rfl rfl (by simp) ?_
   simp
   have hpO := hJ
   try simp [LxS.obs, LxS.obs', Tok.ac0] at hpO
   refine ab0 53 hpO (by simp) ?_
   clear hpO
   simp +contextual (maxSteps := 2000000) (disch := omega) [-Int.not_lt, -Int.not_le, -Nat.not_lt, -Nat.not_le, sx]
   refine endR _ _ (Wk.refl _ _) [.l 53 0] (by simp) ?_
   simp +contextual (maxSteps := 2000000) (disch := omega) [-Int.not_lt, -Int.not_le, -Nat.not_lt, -Nat.not_le, sx, LxS.obs']
 rw [if_neg h2] at hone
 have hI2 : ¬ 0 <= Lib.indexByte ak0 c := fun h => h2 (hm2.1 h)
 by_cases h3 : c = 34
 ·subst h3
  rw [if_pos rfl] at hone
  have hJ := mG0 ⟨s, i, out⟩ i rfl hi hs ho
  rw [hone]
  dsimp only at hJ
  rcases LxS.kX0 ⟨s, i, out⟩ (iN0 (sB s) i) with ⟨a, e, hR⟩ | ⟨y, hR⟩
  ·rw [hR] at hJ
   rw [hR]
   simp +contextual (maxSteps := 2000000) (disch := omega) [-Int.not_lt, -Int.not_le, -Nat.not_lt, -Nat.not_le, sx, hI2]
   refine aa0 [.e 0, .e 1] rfl rfl (by simp) ?_
   simp
   have hpO := hJ
   try simp [LxS.obs, LxS.obs', Tok.ac0] at hpO
   refine af0 hpO ?_
   clear hpO
   simp +contextual (maxSteps := 2000000) (disch := omega) [-Int.not_lt, -Int.not_le, -Nat.not_lt, -Nat.not_le, sx]
   refine endP ?_
   simp +contextual (maxSteps := 2000000) (disch := omega) [-Int.not_lt, -Int.not_le, -Nat.not_lt, -Nat.not_le, sx, LxS.obs]
  ·rw [hR] at hJ
   rw [hR]
   simp +contextual (maxSteps := 2000000) (disch := omega) [-Int.not_lt, -Int.not_le, -Nat.not_lt, -Nat.not_le, sx, hI2]
   refine aa0 [.e 0, .e 1] rfl rfl (by simp) ?_
   simp
   have hpO := hJ
   try simp [LxS.obs, LxS.obs', Tok.ac0] at hpO
   refine ab0 58 hpO (by simp) ?_
   clear hpO
   simp +contextual (maxSteps := 2000000) (disch := omega) [-Int.not_lt, -Int.not_le, -Nat.not_lt, -Nat.not_le, sx]
   refine endR _ _ (Wk.refl _ _) [.l 58 0] (by simp) ?_
   simp +contextual (maxSteps := 2000000) (disch := omega) [-Int.not_lt, -Int.not_le, -Nat.not_lt, -Nat.not_le, sx, LxS.obs']
 rw [if_neg h3] at hone
 have n34 : ¬ (c.toNat : Int) = 34 := fun h => h3 (UInt8.toNat_inj.1 (by exact_mod_cast h))
 simp +contextual (maxSteps := 2000000) (disch := omega) [-Int.not_lt, -Int.not_le, -Nat.not_lt, -Nat.not_le, sx, hI2, n34]
 refine ai0 ?_; simp; refine ah0 (kG0) (by simp) ?_
 simp +contextual (maxSteps := 2000000) (disch := omega) [-Int.not_lt, -Int.not_le, -Nat.not_lt, -Nat.not_le, sx]
 have hgo : ∀ (k : Nat), k < 6 -> ∃ m, cb0[k]? = some m /\ m.length = 2 := fun k hk =>
  ⟨cb0[k]'hk, List.getElem?_eq_getElem hk, jK0 _ (List.getElem_mem _)⟩
 refine aH0 (fun y : Nat => 6 - y) (fun y => [(61, vI y), (60, vI 6), (59, .lst (cb0.map fun m => [vS (bS m)])), (2, vU c), (0, .bp (.e 0) 0)])
  (fun _ => [(.e 0, .box [vS s, vI i, .arr (.e 1) 0 out.length]), (.e 1, .row bB0 4 true (out.map Tok.cells))])
  (fun y => y <= 6 /\ ∀ k, k < y -> ∀ m, cb0[k]? = some m -> ((sB s).drop i).take 2 ≠ m) 0 ⟨by omega, fun k hk => by omega⟩ (Wk.subs (by simp [cb0]) (by simp)) ?_
 rintro k ⟨hk6, hno⟩
 by_cases hk : k < 6
 ·obtain ⟨m, hm, hm2⟩ := hgo k hk
  have hml : (List.map (fun m => [vS (bS m)]) cb0)[k]? = some [vS (bS m)] := by rw [List.getElem?_map, hm]; rfl
  have hk' : (k : Int) < 6 := by omega
  simp +contextual (maxSteps := 2000000) (disch := omega) [-Int.not_lt, -Int.not_le, -Nat.not_lt, -Nat.not_le, sx, hk']
  rw [bc0 hml]
  simp +contextual (maxSteps := 2000000) (disch := omega) [-Int.not_lt, -Int.not_le, -Nat.not_lt, -Nat.not_le, sx]
  have hpre : (sB (bS m)).isPrefixOf (sB (s.extract i s.size)) = decide (((sB s).drop i).take 2 = m) := by
   have hdl : ((sB s).drop i).take (s.size - i) = (sB s).drop i := List.take_of_length_le (by simp)
   rw [dn0, hdl, show sB (bS m) = m from rfl, pN0 hm2]
  refine ai0 ?_; simp; refine ah0 (hG0 (s.extract i s.size) (bS m)) (by simp) ?_
  rw [hpre]
  by_cases he : ((sB s).drop i).take 2 = m
  ·have hcon : cb0.contains (((sB s).drop i).take 2) = true := by
    rw [he]; exact List.contains_iff_mem.2 (List.mem_of_getElem? hm)
   rw [if_pos hcon, he] at hone
   rw [hone]
   simp +contextual (maxSteps := 2000000) (disch := omega) [-Int.not_lt, -Int.not_le, -Nat.not_lt, -Nat.not_le, sx, he]
   by_cases hfull : 4096 <= out.length
   ·refine aa0 [.e 0, .e 1] rfl rfl (by simp) ?_
    simp
    have hpO := db0 ⟨s, i, out⟩ ⟨4, bS m, 0, 0⟩ (i + 2) hfull (by dsimp only; omega)
    try simp [LxS.obs, LxS.obs', Tok.ac0] at hpO
    refine af0 hpO ?_
    clear hpO
    simp +contextual (maxSteps := 2000000) (disch := omega) [-Int.not_lt, -Int.not_le, -Nat.not_lt, -Nat.not_le, sx]
    refine endP ?_
    simp +contextual (maxSteps := 2000000) (disch := omega) [-Int.not_lt, -Int.not_le, -Nat.not_lt, -Nat.not_le, sx, LxS.after, LxS.obs, hfull]
   ·refine aa0 [.e 0, .e 1] rfl rfl (by simp) ?_
    simp
    have hpO := eb0 ⟨s, i, out⟩ ⟨4, bS m, 0, 0⟩ (i + 2) (by dsimp only; omega)
    try simp [LxS.obs, LxS.obs', Tok.ac0] at hpO
    refine ab0 84 hpO (by simp) ?_
    clear hpO
    simp +contextual (maxSteps := 2000000) (disch := omega) [-Int.not_lt, -Int.not_le, -Nat.not_lt, -Nat.not_le, sx]
    refine endR _ _ (Wk.refl _ _) [.l 84 0] (by simp) ?_
    simp +contextual (maxSteps := 2000000) (disch := omega) [-Int.not_lt, -Int.not_le, -Nat.not_lt, -Nat.not_le, sx, LxS.after, LxS.obs', hfull, Tok.ac0]
  ·simp +contextual (maxSteps := 2000000) (disch := omega) [-Int.not_lt, -Int.not_le, -Nat.not_lt, -Nat.not_le, sx, he]
   refine .of (k + 1) ⟨by omega, fun q hq m' hm' => ?_⟩ (by omega) (Wk.subs (by simp) (by simp))
   rcases Nat.lt_or_ge q k with h | h
   ·exact hno q h m' hm'
   ·have : q = k := by omega
    subst this
    rw [hm] at hm'; injection hm' with hm'; subst hm'; exact he
 ·have hcon : cb0.contains (((sB s).drop i).take 2) = false := by
   rw [<- Bool.not_eq_true, List.contains_iff_mem]
   intro h
   obtain ⟨q, hq, hq2⟩ := List.getElem_of_mem h
   have hq6 : q < 6 := hq
   exact hno q (by omega) _ (List.getElem?_eq_getElem hq) hq2.symm
  have hk' : ¬ (k : Int) < 6 := by omega
  rw [if_neg (by rw [hcon]; simp)] at hone
  simp +contextual (maxSteps := 2000000) (disch := omega) [-Int.not_lt, -Int.not_le, -Nat.not_lt, -Nat.not_le, sx, hk']
  refine ai0 ?_; simp; refine ah0 (aF0 ⟨⟨cP0⟩⟩ c) (by simp) ?_
  rw [show sB ⟨⟨cP0⟩⟩ = cP0 from rfl]
  have hm3 := bP0 cP0 c
  by_cases h4 : cP0.contains c = true
  ·rw [if_pos h4] at hone
   rw [hone]
   have hI4 : ¬ Lib.indexByte cP0 c < 0 := by have := hm3.2 h4; omega
   have hc128 : (c.toNat : Int) < 128 := by
    simp [cP0] at h4
    rcases h4 with h | h | h | h | h | h | h | h | h | h | h | h | h | h | h | h | h | h | h <;> subst h <;> decide
   have hchr : chr (c.toNat : Int) = bS [c] := by simp [chr]
   simp +contextual (maxSteps := 2000000) (disch := omega) [-Int.not_lt, -Int.not_le, -Nat.not_lt, -Nat.not_le, sx, hI4, hc128, hchr]
   by_cases hfull : 4096 <= out.length
   ·refine aa0 [.e 0, .e 1] rfl rfl (by simp) ?_
    simp
    have hpO := db0 ⟨s, i, out⟩ ⟨4, bS [c], 0, 0⟩ (i + 1) hfull (by dsimp only; omega)
    try simp [LxS.obs, LxS.obs', Tok.ac0] at hpO
    refine af0 hpO ?_
    clear hpO
    simp +contextual (maxSteps := 2000000) (disch := omega) [-Int.not_lt, -Int.not_le, -Nat.not_lt, -Nat.not_le, sx]
    refine endP ?_
    simp +contextual (maxSteps := 2000000) (disch := omega) [-Int.not_lt, -Int.not_le, -Nat.not_lt, -Nat.not_le, sx, LxS.after, LxS.obs, hfull]
   ·refine aa0 [.e 0, .e 1] rfl rfl (by simp) ?_
    simp
    have hpO := eb0 ⟨s, i, out⟩ ⟨4, bS [c], 0, 0⟩ (i + 1) (by dsimp only; omega)
    try simp [LxS.obs, LxS.obs', Tok.ac0] at hpO
    refine ab0 104 hpO (by simp) ?_
    clear hpO
    simp +contextual (maxSteps := 2000000) (disch := omega) [-Int.not_lt, -Int.not_le, -Nat.not_lt, -Nat.not_le, sx]
    refine endN _ _ (Wk.refl _ _) [.l 104 0] (by simp) ?_
    simp +contextual (maxSteps := 2000000) (disch := omega) [-Int.not_lt, -Int.not_le, -Nat.not_lt, -Nat.not_le, sx, LxS.after, LxS.obs', hfull, Tok.ac0]
  ·rw [if_neg h4] at hone
   rw [hone]
   have hI4 : Lib.indexByte cP0 c < 0 := by
    have : ¬ 0 <= Lib.indexByte cP0 c := fun h => h4 (hm3.1 h)
    omega
   simp +contextual (maxSteps := 2000000) (disch := omega) [-Int.not_lt, -Int.not_le, -Nat.not_lt, -Nat.not_le, sx, hI4]
   refine aa0 [.e 0, .e 1] rfl rfl (by simp) ?_
   simp
   have hpO := aL0 ⟨s, i, out⟩ i 30
   try simp [LxS.obs, LxS.obs', Tok.ac0] at hpO
   refine af0 hpO ?_
   clear hpO
   simp +contextual (maxSteps := 2000000) (disch := omega) [-Int.not_lt, -Int.not_le, -Nat.not_lt, -Nat.not_le, sx]
   refine endP ?_
   simp +contextual (maxSteps := 2000000) (disch := omega) [-Int.not_lt, -Int.not_le, -Nat.not_lt, -Nat.not_le, sx, LxS.after, LxS.obs]
attribute [local irreducible] vcF dfrS dEnd jv0 dJ JD
def LxS.obs0 (x : LxS) : List Ob := [.box [vS x.s, vI x.at_, .nil]]
theorem oj0 (x : LxS) (set : ByteArray) (i : Nat) (hx : x.at_ = i) (hs : x.s.size < 2 ^ 40) :
  J prog fh0 [.bp (.e 0) 0, vS set] x.obs0 (· = .ret (vI (bb0 (sB set) (sB x.s) i)) x.obs0) := by
 have hz : x.s.size = (sB x.s).length := rfl
 refine aq0 hy0 (by simp [LxS.obs0]) ?_
 simp +contextual (maxSteps := 2000000) (disch := omega) [-Int.not_lt, -Int.not_le, -Nat.not_lt, -Nat.not_le, sx, ew0, LxS.obs0, hpE, hx]
 refine aH0 (fun j : Nat => x.s.size - j) (fun j => [(5, vI j), (1, vS set), (0, .bp (.e 0) 0)])
  (fun _ => [(.e 0, .box [vS x.s, vI x.at_, .nil])])
  (fun j => bb0 (sB set) (sB x.s) j = bb0 (sB set) (sB x.s) i) i rfl (Wk.subs (by simp) (by simp [hx])) ?_
 intro j hj
 simp +contextual (maxSteps := 2000000) (disch := omega) [-Int.not_lt, -Int.not_le, -Nat.not_lt, -Nat.not_le, sx]
 refine ⟨fun hl => ?_, fun hl => ?_⟩
 ·have hl' : j < (sB x.s).length := by rw [<- hz]; exact hl
  refine ⟨(sB x.s)[j], by simp [sB], ?_⟩
  refine ai0 ?_; simp; refine ah0 (aF0 set (sB x.s)[j]) (by simp) ?_
  simp +contextual (maxSteps := 2000000) (disch := omega) [-Int.not_lt, -Int.not_le, -Nat.not_lt, -Nat.not_le, sx]
  refine ⟨fun hc => ?_, fun hc => ?_⟩
  ·have hm := (bP0 _ _).1 hc
   refine .of (j + 1) (by rw [<- hj, mT0 hl' hm]) (by omega) (Wk.subs (by simp) (by simp [hx]))
  ·have hm : (sB set).contains (sB x.s)[j] = false := by
    rw [<- Bool.not_eq_true]; intro h; exact hc ((bP0 _ _).2 h)
   rw [nQ0 hl' hm] at hj
   refine endR _ _ (Wk.refl _ _) [] (by simp) ?_
   simp +contextual (maxSteps := 2000000) (disch := omega) [-Int.not_lt, -Int.not_le, -Nat.not_lt, -Nat.not_le, sx, hj, hx]
 ·rw [nP0 (by omega)] at hj
  refine endR _ _ (Wk.refl _ _) [] (by simp) ?_
  simp +contextual (maxSteps := 2000000) (disch := omega) [-Int.not_lt, -Int.not_le, -Nat.not_lt, -Nat.not_le, sx, hj, hx]
theorem mF0 (x : LxS) (i : Nat) (hx : x.at_ = i) (hi : i <= x.s.size) (hs : x.s.size < 2 ^ 40) :
  J prog dX0 [.bp (.e 0) 0] x.obs0 (· = .ret (.tup []) ({ x with at_ := aJ0 (sB x.s) (x.s.size + 1) i } : LxS).obs0) := by
 have hz : x.s.size = (sB x.s).length := rfl
 refine aq0 gc0 (by simp [LxS.obs0]) ?_
 simp +contextual (maxSteps := 2000000) (disch := omega) [-Int.not_lt, -Int.not_le, -Nat.not_lt, -Nat.not_le, sx, du0, LxS.obs0, hpE]
 refine aH0 (fun y : Nat × Nat => y.1) (fun y => [(0, .bp (.e 0) 0)])
  (fun y => [(.e 0, .box [vS x.s, vI y.2, .nil])])
  (fun y => y.2 <= x.s.size /\ x.s.size - y.2 < y.1 /\ aJ0 (sB x.s) y.1 y.2 = aJ0 (sB x.s) (x.s.size + 1) i) (x.s.size + 1, i) ⟨hi, by show x.s.size - i < x.s.size + 1; omega, rfl⟩ (Wk.subs (by simp) (by simp [hx])) ?_
 rintro ⟨f, j⟩ ⟨hj, hf, hb⟩
 dsimp only at hj hf hb
 obtain ⟨f, rfl⟩ : ∃ f', f = f' + 1 := ⟨f - 1, by omega⟩
 have hge := is0 aZ0 (sB x.s) j
 have hle : bb0 aZ0 (sB x.s) j <= x.s.size := it0 hj
 simp +contextual (maxSteps := 2000000) (disch := omega) [-Int.not_lt, -Int.not_le, -Nat.not_lt, -Nat.not_le, sx]
 refine aa0 [.e 0] rfl rfl (by simp) ?_
 simp
 have hpO := oj0 { x with at_ := j } ⟨⟨[32, 10, 9]⟩⟩ j rfl hs
 try simp [LxS.obs, LxS.obs', LxS.obs0, Tok.ac0] at hpO
 refine ab0 5 hpO (by simp) ?_
 clear hpO
 rw [show sB ⟨⟨[32, 10, 9]⟩⟩ = aZ0 from rfl]
 generalize hp : bb0 aZ0 (sB x.s) j = p at *
 simp +contextual (maxSteps := 2000000) (disch := omega) [-Int.not_lt, -Int.not_le, -Nat.not_lt, -Nat.not_le, sx]
 refine ⟨fun hl => ?_, fun hl => ?_⟩
 ·rw [fU0 (by rw [hp, List.getElem?_eq_none (by omega)]; simp), hp] at hb
  refine endR _ _ (Wk.refl _ _) [] (by simp) ?_
  simp +contextual (maxSteps := 2000000) (disch := omega) [-Int.not_lt, -Int.not_le, -Nat.not_lt, -Nat.not_le, sx, <- hb]
 have hl' : p < (sB x.s).length := by omega
 refine ⟨(sB x.s)[p], by simp [sB], fun hc => ?_, fun hc => ?_⟩
 ·rw [fU0 (by rw [hp, List.getElem?_eq_getElem hl']; intro h; apply hc; injection h with h; rw [h]; rfl), hp] at hb
  refine endR _ _ (Wk.refl _ _) [] (by simp) ?_
  simp +contextual (maxSteps := 2000000) (disch := omega) [-Int.not_lt, -Int.not_le, -Nat.not_lt, -Nat.not_le, sx, <- hb]
 have hc' : (sB x.s)[p] = 35 := by
  apply UInt8.toNat_inj.1; exact_mod_cast hc
 refine ai0 ?_; simp; refine ah0 (aF0 (x.s.extract p x.s.size) 10) (by simp) ?_
 rw [dn0, List.take_of_length_le (by simp)]
 have hlt := hY0 ((sB x.s).drop p) 10
 have h0 : 0 < (Lib.indexByte ((sB x.s).drop p) 10) \/ (Lib.indexByte ((sB x.s).drop p) 10) < 0 := by
  rw [List.drop_eq_getElem_cons hl', hc']
  have hge := Lib.indexByte_ge ((sB x.s).drop (p + 1)) 10
  unfold Lib.indexByte
  by_cases h5 : Lib.indexByte ((sB x.s).drop (p + 1)) 10 = -1
  ·rw [h5]; right; decide
  ·left
   have h6 : (Lib.indexByte ((sB x.s).drop (p + 1)) 10 == -1) = false := by simpa using h5
   rw [h6, show ((35 : UInt8) == 10) = false from rfl]
   simp only [Bool.false_eq_true, if_false]; omega
 rw [km0 (by rw [hp, List.getElem?_eq_getElem hl', hc']), hp] at hb
 generalize hq : Lib.indexByte ((sB x.s).drop p) 10 = q at *
 simp only [List.length_drop] at hlt
 simp +contextual (maxSteps := 2000000) (disch := omega) [-Int.not_lt, -Int.not_le, -Nat.not_lt, -Nat.not_le, sx]
 refine ⟨fun hq0 => ?_, fun hq0 => ?_⟩
 ·obtain ⟨m, rfl⟩ := Int.eq_ofNat_of_zero_le hq0
  rw [if_neg (by omega)] at hb
  refine .of (f, p + m) ⟨by dsimp only; omega, by dsimp only; omega, hb⟩ (by simp) (Wk.subs (by simp) (by simp))
 ·rw [if_pos (by omega)] at hb
  refine .of (f, x.s.size) ⟨by dsimp only; omega, by dsimp only; omega, hb⟩ (by simp) (Wk.subs (by simp) (by simp))
theorem lA0 {i0 : Nat} : ∀ {l : Bs} {j : Nat} {acc t : Bs} {k : Nat}, iO0 i0 l j acc = .ok (t, k) -> j < k /\ k <= j + l.length
 | [], j, acc, t, k, h => by simp [iO0] at h
 | c :: l, j, acc, t, k, h => by
  rw [iO0.eq_def] at h
  simp only at h
  split at h
  ·split at h
   ·cases h
   ·injection h with h; injection h with h1 h2; subst h2; simp only [List.length_cons]; omega
  split at h
  ·cases h
  split at h
  ·split at h
   ·cases h
   ·rename_i d l'
    split at h
    ·have := lA0 h; simp only [List.length_cons]; omega
    ·cases h
  ·have := lA0 h; simp only [List.length_cons]; omega
theorem nC0 {s : Bs} {i : Nat} {k : Int} {t : Bs} {n : Int} {j : Nat} (h : lm0 s i = .ok (k, t, n, j)) : i < j /\ j <= s.length := by
 cases hg : s[i]? with
 | none => unfold lm0 at h; rw [hg] at h; cases h
 | some c =>
 have hi : i < s.length := (List.getElem?_eq_some_iff.1 hg).1
 have hc : s[i] = c := (List.getElem?_eq_some_iff.1 hg).2
 rw [mI0 hg] at h
 have run : ∀ set : Bs, set.contains c = true -> i < bb0 set s i /\ bb0 set s i <= s.length := fun set hs => by
  have h1 := mT0 (set := set) hi (by rw [hc]; exact hs)
  have h2 := is0 set s (i + 1)
  exact ⟨by omega, it0 (by omega)⟩
 split at h
 ·rename_i h1
  split at h
  ·cases h
  ·injection h with h; simp only [Prod.mk.injEq] at h
   obtain ⟨_, _, _, rfl⟩ := h
   refine run _ ?_
   rw [List.contains_iff_mem, List.mem_append]
   exact .inl (List.contains_iff_mem.1 h1)
 split at h
 ·rename_i h1
  unfold numR at h
  split at h
  ·cases h
  ·split at h
   ·cases h
   ·injection h with h; simp only [Prod.mk.injEq] at h
    obtain ⟨_, _, _, rfl⟩ := h
    exact run _ h1
 split at h
 ·unfold iN0 at h
  split at h
  ·cases h
  ·rename_i t' j' ht
   injection h with h; simp only [Prod.mk.injEq] at h
   obtain ⟨_, _, _, rfl⟩ := h
   have := lA0 ht
   simp only [List.length_drop] at this
   omega
 split at h
 ·rename_i h1
  injection h with h; simp only [Prod.mk.injEq] at h
  obtain ⟨_, _, _, rfl⟩ := h
  have := jK0 _ (List.contains_iff_mem.1 h1)
  simp at this
  omega
 split at h
 ·injection h with h; simp only [Prod.mk.injEq] at h
  obtain ⟨_, _, _, rfl⟩ := h
  omega
 ·cases h
theorem im0 (s : Bs) : ∀ (f i : Nat), i <= s.length -> i <= aJ0 s f i /\ aJ0 s f i <= s.length
 | 0, i, h => ⟨by simp [aJ0], by simpa [aJ0] using h⟩
 | f + 1, i, h => by
  have h1 := is0 aZ0 s i
  have h2 := it0 (set := aZ0) h
  rw [aJ0]
  split
  ·have h4 := hY0 (s.drop (bb0 aZ0 s i)) 10
   simp only [List.length_drop] at h4
   split
   ·have h3 := im0 s f s.length (Nat.le_refl _); omega
   ·have h3 := im0 s f (bb0 aZ0 s i + (Lib.indexByte (s.drop (bb0 aZ0 s i)) 10).toNat) (by omega); omega
  ·omega
def lexV : LxR (List Tok) -> V
 | .ok ts => .tup [.lst (ts.map Tok.cells), vI 0, vI 0]
 | .bad a e => .tup [.lst [], vI a, vI e]
theorem lQ0 (n : Nat) (a e : Int) (xs : List (List V)) :
  JD prog true jd0 [.bp (.e 0) 0, .bp (.e 1) 0, .bp (.e 2) 0] [.box [.arr (.e 3) 0 n], .box [vI a], .box [vI e], .row bB0 4 true xs] none (· = .ret (.tup []) [.box [.arr (.e 3) 0 n], .box [vI a], .box [vI e], .row bB0 4 true xs]) := by
 refine JR_of kx0 (by simp) (by simp) ?_
 simp +contextual (maxSteps := 2000000) (disch := omega) [-Int.not_lt, -Int.not_le, -Nat.not_lt, -Nat.not_le, sx, hJ0, hpE, pvV]
 refine endN _ _ (Wk.refl _ _) [] (by simp) ?_
 simp +contextual (maxSteps := 2000000) (disch := omega) [-Int.not_lt, -Int.not_le, -Nat.not_lt, -Nat.not_le, sx]
theorem gs0 (a e : Int) : JD prog true jd0 [.bp (.e 0) 0, .bp (.e 1) 0, .bp (.e 2) 0] [.box [.nil], .box [vI 0], .box [vI 0]] (some (oK0 a e)) (· = .ret (.tup []) [.box [.nil], .box [vI a], .box [vI e]]) := by
 refine JR_of kx0 (by simp) (by simp) ?_
 simp +contextual (maxSteps := 2000000) (disch := omega) [-Int.not_lt, -Int.not_le, -Nat.not_lt, -Nat.not_le, sx, hJ0, hpE, pvV]
 refine endN _ _ (Wk.refl _ _) [] (by simp) ?_
 simp +contextual (maxSteps := 2000000) (disch := omega) [-Int.not_lt, -Int.not_le, -Nat.not_lt, -Nat.not_le, sx]
abbrev lexE (a b c : Id) (s : ByteArray) : Env := [(0, vS s), (2, .bp a 0), (3, .bp b 0), (4, .bp c 0)]
abbrev lexH (a b c : Id) : Hp := [(a, .box [.nil]), (b, .box [vI 0]), (c, .box [vI 0])]
theorem nB0 {s : Bs} {f i : Nat} {out : List Tok} (h : s.length <= aJ0 s (s.length + 1) i) :
  kc0 s (f + 1) i out = if out.length >= 4096 then .bad (aJ0 s (s.length + 1) i) 36 else .ok (out ++ [⟨5, bS [], 0, aJ0 s (s.length + 1) i⟩]) := by
 rw [kc0, if_pos h]
theorem nA0 {s : Bs} {f i : Nat} {out : List Tok} (h : ¬ s.length <= aJ0 s (s.length + 1) i) {a e : Int} (h1 : lm0 s (aJ0 s (s.length + 1) i) = .bad a e) : kc0 s (f + 1) i out = .bad a e := by
 rw [kc0, if_neg h, h1]
theorem oS0 {s : Bs} {f i : Nat} {out : List Tok} (h : ¬ s.length <= aJ0 s (s.length + 1) i) {k : Int} {t : Bs} {n : Int} {j : Nat} (h1 : lm0 s (aJ0 s (s.length + 1) i) = .ok (k, t, n, j)) :
  kc0 s (f + 1) i out = if out.length >= 4096 then .bad (aJ0 s (s.length + 1) i) 36 else kc0 s f j (out ++ [⟨k, bS t, n, aJ0 s (s.length + 1) i⟩]) := by
 rw [kc0, if_neg h, h1]
set_option maxHeartbeats 1600000 in
theorem nw0 (s : ByteArray) (hs : s.size < 2 ^ 39) : Ret prog nj0 [vS s] (lexV (jL0 (sB s))) := by
 have hz : s.size = (sB s).length := rfl
 refine J_dfr true po0 (by simp) ?_
 by_cases hlong : 16384 < s.size
 ·have hl : jL0 (sB s) = .bad 16384 3 := by rw [jL0, if_pos (by omega)]
  have hlong' : (16384 : Int) < s.size := by omega
  rw [hl]
  simp +contextual (maxSteps := 2000000) (disch := omega) [-Int.not_lt, -Int.not_le, -Nat.not_lt, -Nat.not_le, sx, j40, eG0, eF0, hlong', hpE]
  refine endR _ _ (Wk.refl _ _) [] (by simp) ?_
  simp +contextual (maxSteps := 2000000) (disch := omega) [-Int.not_lt, -Int.not_le, -Nat.not_lt, -Nat.not_le, sx, lexV]
 have hl : jL0 (sB s) = kc0 (sB s) (s.size + 1) 0 [] := by rw [jL0, if_neg (by omega)]; rfl
 have hlong' : ¬ (16384 : Int) < s.size := by omega
 rw [hl]
 simp +contextual (maxSteps := 2000000) (disch := omega) [-Int.not_lt, -Int.not_le, -Nat.not_lt, -Nat.not_le, sx, j40, eG0, eF0, hlong', hpE]
 refine mu0 rfl rfl (.trans (.ren (.l 2 0) 0 (by simp) (by simp) (E := lexE (.e 0) (.l 3 0) (.l 4 0) s) (h := lexH (.e 0) (.l 3 0) (.l 4 0)) (cs' := [.bp (.e 0) 0, .bp (.l 3 0) 0, .bp (.l 4 0) 0]) (by simp [renF]) (by simp [renF, bC0]) (by simp [renF]))
  (.trans (.ren (.l 3 0) 1 (by simp) (by simp) (E := lexE (.e 0) (.e 1) (.l 4 0) s) (h := lexH (.e 0) (.e 1) (.l 4 0)) (cs' := [.bp (.e 0) 0, .bp (.e 1) 0, .bp (.l 4 0) 0]) (by simp [renF]) (by simp [renF, bC0]) (by simp [renF]))
  (.ren (.l 4 0) 2 (by simp) (by simp) (E := lexE (.e 0) (.e 1) (.e 2) s) (h := lexH (.e 0) (.e 1) (.e 2)) (cs' := [.bp (.e 0) 0, .bp (.e 1) 0, .bp (.e 2) 0]) (by simp [renF]) (by simp [renF, bC0]) (by simp [renF])))) rfl ?_
 simp +contextual (maxSteps := 2000000) (disch := omega) [-Int.not_lt, -Int.not_le, -Nat.not_lt, -Nat.not_le, sx]
 refine aa0 [.l 12 0] rfl rfl (by simp) ?_
 simp
 have hpO := mF0 ⟨s, 0, []⟩ 0 rfl (by simp) (by dsimp only; omega)
 try simp [LxS.obs, LxS.obs', LxS.obs0, Tok.ac0] at hpO
 refine ab0 14 hpO (by simp) ?_
 clear hpO
 simp +contextual (maxSteps := 2000000) (disch := omega) [-Int.not_lt, -Int.not_le, -Nat.not_lt, -Nat.not_le, sx]
 refine aH0 (fun y : Nat × Nat × List Tok => y.1) (fun y => [(5, .bp (.l 12 0) 0), (0, vS s), (2, .bp (.e 0) 0), (3, .bp (.e 1) 0), (4, .bp (.e 2) 0)])
  (fun y => [(.l 12 0, .box [vS s, vI (aJ0 (sB s) (s.size + 1) y.2.1), .arr (.l 999 0) 0 y.2.2.length]), (.l 999 0, .row bB0 4 true (y.2.2.map Tok.cells)), (.e 0, .box [.nil]), (.e 1, .box [vI 0]), (.e 2, .box [vI 0])])
  (fun y => y.2.1 <= s.size /\ s.size - y.2.1 < y.1 /\ y.2.2.length <= 4096 /\ kc0 (sB s) y.1 y.2.1 y.2.2 = kc0 (sB s) (s.size + 1) 0 []) (s.size + 1, 0, [])
  ⟨by simp, by simp, by simp, rfl⟩ (Wk.trans (Wk.subs (by simp) (by simp)) (Wk.rowB (b := .l 12 0) (id := .l 999 0) (off := 2) (ty := bB0) (sz := 4) rfl rfl (by simp) (by simp))) ?_
 rintro ⟨f, i, out⟩ ⟨hi, hf, ho, hv⟩
 dsimp only at hi hf ho hv
 obtain ⟨f, rfl⟩ : ∃ f', f = f' + 1 := ⟨f - 1, by omega⟩
 have hb := im0 (sB s) (s.size + 1) i (by omega)
 rw [<- hz] at hb
 generalize hB : aJ0 (sB s) (s.size + 1) i = b at *
 by_cases hbl : b < s.size
 ·have hbl' : (b : Int) < s.size := by omega
  have hno : ¬ (sB s).length <= aJ0 (sB s) ((sB s).length + 1) i := by rw [<- hz, hB]; omega
  have hJ := nx0 ⟨s, b, out⟩ b rfl hbl hs ho
  dsimp only at hJ
  cases hR : lm0 (sB s) b with
  | bad a e =>
   rw [hR] at hJ
   rw [nA0 hno (by rw [<- hz, hB]; exact hR)] at hv
   rw [<- hv]
   simp only [LxS.after] at hJ
   simp +contextual (maxSteps := 2000000) (disch := omega) [-Int.not_lt, -Int.not_le, -Nat.not_lt, -Nat.not_le, sx, hbl']
   refine aa0 [.l 12 0, .l 999 0] rfl rfl (by simp) ?_
   simp
   have hpO := hJ
   try simp [LxS.obs, LxS.obs', LxS.obs0, Tok.ac0] at hpO
   refine af0 hpO ?_
   clear hpO
   simp +contextual (maxSteps := 2000000) (disch := omega) [-Int.not_lt, -Int.not_le, -Nat.not_lt, -Nat.not_le, sx]
   refine kP0 (by simp) _ _ (Wk.refl _ _) (dz0 [.e 0, .e 1, .e 2] (by simp) ?_)
   simp
   refine kr0 (gs0 a e) (by simp) ?_
   simp
   refine endR _ _ (Wk.refl _ _) [] (by simp) ?_
   simp +contextual (maxSteps := 2000000) (disch := omega) [-Int.not_lt, -Int.not_le, -Nat.not_lt, -Nat.not_le, sx, lexV, stab, V.allE, V.js0, lexE, List.filter_cons, Id.isE]
  | ok q =>
   obtain ⟨k, t, n, j⟩ := q
   have hadv := nC0 hR
   rw [hR] at hJ
   rw [oS0 hno (by rw [<- hz, hB]; exact hR), <- hz, hB] at hv
   by_cases hfull : 4096 <= out.length
   ·rw [if_pos hfull] at hv
    rw [<- hv]
    simp only [LxS.after, if_pos hfull] at hJ
    simp +contextual (maxSteps := 2000000) (disch := omega) [-Int.not_lt, -Int.not_le, -Nat.not_lt, -Nat.not_le, sx, hbl']
    refine aa0 [.l 12 0, .l 999 0] rfl rfl (by simp) ?_
    simp
    have hpO := hJ
    try simp [LxS.obs, LxS.obs', LxS.obs0, Tok.ac0] at hpO
    refine af0 hpO ?_
    clear hpO
    simp +contextual (maxSteps := 2000000) (disch := omega) [-Int.not_lt, -Int.not_le, -Nat.not_lt, -Nat.not_le, sx]
    refine kP0 (by simp) _ _ (Wk.refl _ _) (dz0 [.e 0, .e 1, .e 2] (by simp) ?_)
    simp
    refine kr0 (gs0 b 36) (by simp) ?_
    simp
    refine endR _ _ (Wk.refl _ _) [] (by simp) ?_
    simp +contextual (maxSteps := 2000000) (disch := omega) [-Int.not_lt, -Int.not_le, -Nat.not_lt, -Nat.not_le, sx, lexV, stab, V.allE, V.js0, lexE, List.filter_cons, Id.isE]
   ·rw [if_neg (by omega)] at hv
    simp only [LxS.after, if_neg hfull] at hJ
    simp +contextual (maxSteps := 2000000) (disch := omega) [-Int.not_lt, -Int.not_le, -Nat.not_lt, -Nat.not_le, sx, hbl']
    refine aa0 [.l 12 0, .l 999 0] rfl rfl (by simp) ?_
    simp
    have hpO := hJ
    try simp [LxS.obs, LxS.obs', LxS.obs0, Tok.ac0] at hpO
    refine ab0 25 hpO (by simp) ?_
    clear hpO
    simp +contextual (maxSteps := 2000000) (disch := omega) [-Int.not_lt, -Int.not_le, -Nat.not_lt, -Nat.not_le, sx]
    refine aa0 [.l 12 0, .l 25 0] rfl rfl (by simp) ?_
    simp
    have hpO := lR0 ⟨s, j, out ++ [⟨k, bS t, n, b⟩]⟩ j rfl (by dsimp only; omega) (by dsimp only; omega)
    try simp [LxS.obs, LxS.obs', LxS.obs0, Tok.ac0] at hpO
    refine ab0 23 hpO (by simp) ?_
    clear hpO
    simp +contextual (maxSteps := 2000000) (disch := omega) [-Int.not_lt, -Int.not_le, -Nat.not_lt, -Nat.not_le, sx]
    refine .of (f, j, out ++ [⟨k, bS t, n, b⟩]) ⟨by dsimp only; omega, by dsimp only; omega, by simp; omega, hv⟩ (by dsimp only; omega) (Wk.rens (.l 25 0) (.l 999 0) rfl (by simp) (by simp [renF]) (by simp [renF, bC0, Tok.ac0]))
 ·have hbl' : ¬ (b : Int) < s.size := by omega
  have hyes : (sB s).length <= aJ0 (sB s) ((sB s).length + 1) i := by rw [<- hz, hB]; omega
  rw [nB0 hyes, <- hz, hB] at hv
  simp +contextual (maxSteps := 2000000) (disch := omega) [-Int.not_lt, -Int.not_le, -Nat.not_lt, -Nat.not_le, sx, hbl']
  by_cases hfull : 4096 <= out.length
  ·rw [if_pos hfull] at hv
   rw [<- hv]
   refine aa0 [.l 12 0, .l 999 0] rfl rfl (by simp) ?_
   simp
   have hpO := db0 ⟨s, b, out⟩ ⟨5, bS [], 0, 0⟩ b hfull (by dsimp only; omega)
   try simp [LxS.obs, LxS.obs', LxS.obs0, Tok.ac0] at hpO
   refine af0 hpO ?_
   clear hpO
   simp +contextual (maxSteps := 2000000) (disch := omega) [-Int.not_lt, -Int.not_le, -Nat.not_lt, -Nat.not_le, sx]
   refine kP0 (by simp) _ _ (Wk.refl _ _) (dz0 [.e 0, .e 1, .e 2] (by simp) ?_)
   simp
   refine kr0 (gs0 b 36) (by simp) ?_
   simp
   refine endR _ _ (Wk.refl _ _) [] (by simp) ?_
   simp +contextual (maxSteps := 2000000) (disch := omega) [-Int.not_lt, -Int.not_le, -Nat.not_lt, -Nat.not_le, sx, lexV, stab, V.allE, V.js0, lexE, List.filter_cons, Id.isE]
  ·rw [if_neg hfull] at hv
   rw [<- hv]
   refine aa0 [.l 12 0, .l 999 0] rfl rfl (by simp) ?_
   simp
   have hpO := eb0 ⟨s, b, out⟩ ⟨5, bS [], 0, 0⟩ b (by dsimp only; omega)
   try simp [LxS.obs, LxS.obs', LxS.obs0, Tok.ac0] at hpO
   refine ab0 32 hpO (by simp) ?_
   clear hpO
   simp +contextual (maxSteps := 2000000) (disch := omega) [-Int.not_lt, -Int.not_le, -Nat.not_lt, -Nat.not_le, sx]
   refine kQ0 _ _ (Wk.refl _ _) (dz0 [.e 0, .e 1, .e 2, .l 32 0] (by simp) ?_)
   simp
   refine kr0 (lQ0 (out.length + 1) 0 0 _) (by simp) ?_
   simp
   refine endR _ _ (Wk.refl _ _) [] (by simp) ?_
   simp +contextual (maxSteps := 2000000) (disch := omega) [-Int.not_lt, -Int.not_le, -Nat.not_lt, -Nat.not_le, sx, lexV, Tok.ac0]
def oE0 : LxR (List Tok) -> Prop
 | .ok ts => ∃ o b, ts = o ++ [⟨5, bS [], 0, b⟩] /\ o.length < 4096
 | .bad _ e => e ≠ 0 /\ e ≠ -1
theorem lB0 {i0 : Nat} : ∀ {l : Bs} {j : Nat} {acc : Bs} {a e : Int}, iO0 i0 l j acc = .bad a e -> e ≠ 0 /\ e ≠ -1
 | [], j, acc, a, e, h => by simp [iO0] at h; omega
 | c :: l, j, acc, a, e, h => by
  rw [iO0.eq_def] at h
  simp only at h
  split at h
  ·split at h
   ·injection h with h1 h2; omega
   ·cases h
  split at h
  ·injection h with h1 h2; omega
  split at h
  ·split at h
   ·injection h with h1 h2; omega
   ·split at h
    ·exact lB0 h
    ·injection h with h1 h2; omega
  ·exact lB0 h
theorem lxOne_bad {s : Bs} {i : Nat} (hi : i < s.length) {a e : Int} (h : lm0 s i = .bad a e) : e ≠ 0 /\ e ≠ -1 := by
 rw [mI0 (List.getElem?_eq_getElem hi)] at h
 split at h
 ·split at h
  ·injection h with h1 h2; omega
  ·cases h
 split at h
 ·unfold numR at h
  split at h
  ·injection h with h1 h2; omega
  ·split at h
   ·injection h with h1 h2; omega
   ·cases h
 split at h
 ·unfold iN0 at h
  split at h
  ·rename_i ht; injection h with h1 h2; subst h2; exact lB0 ht
  ·cases h
 split at h
 ·cases h
 split at h
 ·cases h
 ·injection h with h1 h2; omega
theorem l70 {s : Bs} : ∀ (f i : Nat) (out : List Tok), i <= s.length -> s.length - i < f -> out.length <= 4096 -> oE0 (kc0 s f i out)
 | 0, i, out, _, h, _ => by omega
 | f + 1, i, out, hi, hf, ho => by
  have hb := im0 s (s.length + 1) i hi
  by_cases h : s.length <= aJ0 s (s.length + 1) i
  ·rw [nB0 h]
   split
   ·exact ⟨by decide, by decide⟩
   ·exact ⟨out, _, rfl, by omega⟩
  ·cases h1 : lm0 s (aJ0 s (s.length + 1) i) with
   | bad a e => rw [nA0 h h1]; exact lxOne_bad (by omega) h1
   | ok q =>
    obtain ⟨k, t, n, j⟩ := q
    have := nC0 h1
    rw [oS0 h h1]
    split
    ·exact ⟨by decide, by decide⟩
    ·exact l70 f j _ (by omega) (by omega) (by simp; omega)
theorem ok0 (s : Bs) : oE0 (jL0 s) := by
 unfold jL0
 split
 ·exact ⟨by decide, by decide⟩
 ·exact l70 _ _ _ (by omega) (by omega) (by simp)
theorem oE0.tend {o : List Tok} {b : Int} : TEnd (o ++ [⟨5, bS [], 0, b⟩]) := by
 intro n hn hk
 have h1 : n < o.length + 1 := by simpa using hn
 rcases Nat.lt_or_ge n o.length with h | h
 ·simp; omega
 ·exfalso
  have : n = o.length := by omega
  subst this
  apply hk
  unfold tk
  rw [List.getD_eq_getElem?_getD, List.getElem?_append_right (Nat.le_refl _)]
  simp
def l90 : LxR Prg -> V
 | .ok p => .tup [.agg p.cells, vI 0, vI 0]
 | .bad a e => .tup [.agg [vI 0, .lst [], .lst []], vI a, vI e]
theorem jQ0 (p : Prg) (a e : Int) :
  JD prog true fi0 [.bp (.e 0) 0, .bp (.e 1) 0, .bp (.e 2) 0] [.box p.cells, .box [vI a], .box [vI e]] none (· = .ret (.tup []) [.box p.cells, .box [vI a], .box [vI e]]) := by
 refine JR_of hC0 (by simp) (by simp) ?_
 simp +contextual (maxSteps := 2000000) (disch := omega) [-Int.not_lt, -Int.not_le, -Nat.not_lt, -Nat.not_le, sx, ex0, hpE, pvV]
 refine endN _ _ (Wk.refl _ _) [] (by simp) ?_
 simp +contextual (maxSteps := 2000000) (disch := omega) [-Int.not_lt, -Int.not_le, -Nat.not_lt, -Nat.not_le, sx]
theorem jR0 (a e : Int) : JD prog true fi0 [.bp (.e 0) 0, .bp (.e 1) 0, .bp (.e 2) 0] [.box [vI 0, .nil, .nil], .box [vI 0], .box [vI 0]] (some (.ifc jY0 (.agg [vI a, vI e]))) (· = .ret (.tup []) [.box [vI 0, .nil, .nil], .box [vI a], .box [vI e]]) := by
 refine JR_of hC0 (by simp) (by simp) ?_
 simp +contextual (maxSteps := 2000000) (disch := omega) [-Int.not_lt, -Int.not_le, -Nat.not_lt, -Nat.not_le, sx, ex0, hpE, pvV]
 refine endN _ _ (Wk.refl _ _) [] (by simp) ?_
 simp +contextual (maxSteps := 2000000) (disch := omega) [-Int.not_lt, -Int.not_le, -Nat.not_lt, -Nat.not_le, sx]
@[simp] theorem lexV_pure (R : LxR (List Tok)) : (lexV R).pure = true := by cases R <;> simp [lexV]
abbrev prsE (a b c : Id) (ts : List Tok) : Env := [(5, .lst (ts.map Tok.cells)), (2, .bp a 0), (3, .bp b 0), (4, .bp c 0)]
abbrev prsH (a b c : Id) : Hp := [(a, .box [vI 0, .nil, .nil]), (b, .box [vI 0]), (c, .box [vI 0])]
theorem kJ0 (s : ByteArray) (hs : s.size < 2 ^ 39) (F : Nat) (hlive : (l80 (sB s) F).live) : Ret prog jx0 [vS s] (l90 (l80 (sB s) F)) := by
 generalize hw : l80 (sB s) F = R at *
 unfold l80 at hw
 have hgood := ok0 (sB s)
 refine J_dfr true lO0 (by simp) ?_
 simp +contextual (maxSteps := 2000000) (disch := omega) [-Int.not_lt, -Int.not_le, -Nat.not_lt, -Nat.not_le, sx, iV0, eG0, eF0, hpE]
 refine ai0 ?_; simp; refine ah0 (nw0 s hs) (by simp) ?_
 cases hx : jL0 (sB s) with
 | bad a e =>
  rw [hx] at hw hgood
  simp only at hw
  subst hw
  have he : ¬ e = 0 := hgood.1
  simp +contextual (maxSteps := 2000000) (disch := omega) [-Int.not_lt, -Int.not_le, -Nat.not_lt, -Nat.not_le, sx, lexV, he, eG0, eF0]
  refine endR _ _ (Wk.refl _ _) [] (by simp) ?_
  simp +contextual (maxSteps := 2000000) (disch := omega) [-Int.not_lt, -Int.not_le, -Nat.not_lt, -Nat.not_le, sx, l90]
 | ok ts =>
 rw [hx] at hw hgood
 simp only at hw
 obtain ⟨o, b, rfl, ho⟩ := hgood
 have hE : TEnd (o ++ [⟨5, bS [], 0, b⟩]) := oE0.tend
 have hn : 0 < (o ++ [(⟨5, bS [], 0, b⟩ : Tok)]).length := by simp
 have hl : (o ++ [(⟨5, bS [], 0, b⟩ : Tok)]).length < 2 ^ 40 := by simp; omega
 generalize o ++ [(⟨5, bS [], 0, b⟩ : Tok)] = ts at *
 have hlv : (nM0 ts F).live := by
  cases hp : nM0 ts F with
  | ok q => trivial
  | bad n e => rw [hp] at hw; subst hw; exact hlive
 have hJ := jU0 hE hl F hn hlv
 simp +contextual (maxSteps := 2000000) (disch := omega) [-Int.not_lt, -Int.not_le, -Nat.not_lt, -Nat.not_le, sx, lexV, eG0, eF0]
 refine mu0 rfl rfl (.trans (.ren (.l 2 0) 0 (by simp) (by simp) (E := prsE (.e 0) (.l 3 0) (.l 4 0) ts) (h := prsH (.e 0) (.l 3 0) (.l 4 0)) (cs' := [.bp (.e 0) 0, .bp (.l 3 0) 0, .bp (.l 4 0) 0]) (by simp [renF]) (by simp [renF, bC0]) (by simp [renF]))
  (.trans (.ren (.l 3 0) 1 (by simp) (by simp) (E := prsE (.e 0) (.e 1) (.l 4 0) ts) (h := prsH (.e 0) (.e 1) (.l 4 0)) (cs' := [.bp (.e 0) 0, .bp (.e 1) 0, .bp (.l 4 0) 0]) (by simp [renF]) (by simp [renF, bC0]) (by simp [renF]))
  (.ren (.l 4 0) 2 (by simp) (by simp) (E := prsE (.e 0) (.e 1) (.e 2) ts) (h := prsH (.e 0) (.e 1) (.e 2)) (cs' := [.bp (.e 0) 0, .bp (.e 1) 0, .bp (.e 2) 0]) (by simp [renF]) (by simp [renF, bC0]) (by simp [renF])))) rfl ?_
 simp +contextual (maxSteps := 2000000) (disch := omega) [-Int.not_lt, -Int.not_le, -Nat.not_lt, -Nat.not_le, sx]
 rcases hp : nM0 ts F with ⟨p, m⟩ | ⟨a, e⟩
 ·rw [hp] at hJ hw
  simp only [pAns] at hJ hw
  subst hw
  refine aa0 [.l 21 0] rfl rfl (by simp) ?_
  simp
  have hpO := hJ
  try simp [pObs] at hpO
  refine ab0 23 hpO (by simp) ?_
  clear hpO
  simp +contextual (maxSteps := 2000000) (disch := omega) [-Int.not_lt, -Int.not_le, -Nat.not_lt, -Nat.not_le, sx]
  refine kQ0 _ _ (Wk.refl _ _) (dz0 [.e 0, .e 1, .e 2] (by simp) ?_)
  simp
  refine kr0 (jQ0 p 0 0) (by simp) ?_
  simp
  refine endR _ _ (Wk.refl _ _) [] (by simp) ?_
  simp +contextual (maxSteps := 2000000) (disch := omega) [-Int.not_lt, -Int.not_le, -Nat.not_lt, -Nat.not_le, sx, l90]
 ·rw [hp] at hJ hw
  simp only [pAns] at hJ hw
  subst hw
  refine aa0 [.l 21 0] rfl rfl (by simp) ?_
  simp
  have hpO := hJ
  try simp [pObs] at hpO
  refine af0 hpO ?_
  clear hpO
  simp +contextual (maxSteps := 2000000) (disch := omega) [-Int.not_lt, -Int.not_le, -Nat.not_lt, -Nat.not_le, sx]
  refine kP0 (by simp) _ _ (Wk.refl _ _) (dz0 [.e 0, .e 1, .e 2] (by simp) ?_)
  simp
  refine kr0 (jR0 _ _) (by simp) ?_
  simp
  refine endR _ _ (Wk.refl _ _) [] (by simp) ?_
  simp +contextual (maxSteps := 2000000) (disch := omega) [-Int.not_lt, -Int.not_le, -Nat.not_lt, -Nat.not_le, sx, l90, stab, V.allE, V.js0, prsE, List.filter_cons, Id.isE]
@[simp] theorem elemK_c0 {e : List V} {l : List (List V)} {K : List V -> Prop} : gW0 (e :: l) 0 K = K e := bc0 rfl
@[simp] theorem elemK_c1 {e e' : List V} {l : List (List V)} {K : List V -> Prop} : gW0 (e :: e' :: l) 1 K = K e' := bc0 rfl
theorem list_spec (xs : List Exq) (ts : List Bs) (hlen : ts.length = xs.length) (hx : xs.length < 2 ^ 30) (h : ∀ i (hi : i < xs.length), cZ0 xs[i] (ts[i]'(by omega))) (bs : Bs) (hl : bs.length + (sepB ts).length < 2 ^ 40) :
  J prog fs0 [.bp (.e 0) 0, .lst (xs.map Exq.cells)] (ae0 69 bs) (· = .ret (.tup []) (ad0 69 (bs ++ sepB ts))) := by
 unfold sepB at *
 generalize hM : (ts.mapIdx fun i t => (if i = 0 then [] else [44, 32]) ++ t) = M at *
 have hMl : M.length = xs.length := by rw [<- hM]; simp [hlen]
 have hMg : ∀ i (hi : i < xs.length), M[i]'(by omega) = (if i = 0 then [] else [44, 32]) ++ ts[i]'(by omega) := fun i hi => by simp [<- hM]
 rw [<- bM0, hMl] at hl ⊢
 refine aq0 iH0 (by simp [ae0]) ?_
 simp +contextual (maxSteps := 2000000) (disch := omega) [-Int.not_lt, -Int.not_le, -Nat.not_lt, -Nat.not_le, sx, eP0, ae0, hpE]
 refine ca0 xs.length (fun i => [(8, vI i), (7, vI xs.length), (6, .lst (xs.map Exq.cells)), (0, .bp (.e 0) 0)])
  (fun i => [(.e 0, .box [.self (.e 0) 69, .arr (.l 999 0) 0 (bs ++ aO0 M i).length]), (.l 999 0, .row 5 1 true ((bs ++ aO0 M i).map aR0))])
  (Wk.rens (.e 1) (.l 999 0) rfl (by simp) (by simp [renF, a30]) (by simp [renF, bC0, a30])) ?_
 intro i hi
 by_cases hlt : i < xs.length
 ·have hlt' : (i : Int) < xs.length := by omega
  have hle := g00 M (i + 1)
  rw [<- bM0, hMl] at hle
  have hsucc := dZ0 (L := M) (i := i) (by omega)
  rw [hMg i hlt] at hsucc
  have hP := h i hlt
  by_cases h0 : i = 0
  ·subst h0
   rw [if_pos rfl, List.nil_append, a30, List.nil_append] at hsucc
   rw [hsucc] at hle
   simp +contextual (maxSteps := 2000000) (disch := omega) [-Int.not_lt, -Int.not_le, -Nat.not_lt, -Nat.not_le, sx, hlt']
   refine aa0 [.e 0, .l 999 0] rfl rfl (by simp) ?_
   simp
   have hpO := hP (bs ++ aO0 M 0) (by rw [a30, List.append_nil]; omega)
   try simp [ae0, ad0] at hpO
   refine ab0 20 hpO (by simp) ?_
   clear hpO
   simp +contextual (maxSteps := 2000000) (disch := omega) [-Int.not_lt, -Int.not_le, -Nat.not_lt, -Nat.not_le, sx]
   refine .of hlt (Wk.rens (.l 20 0) (.l 999 0) rfl (by simp) (by simp [renF, hsucc, a30]) (by simp [renF, bC0, hsucc, a30]))
  ·rw [if_neg h0] at hsucc
   rw [hsucc] at hle
   simp only [List.length_append, List.length_cons, List.length_nil] at hle
   have h0' : (0 : Int) < i := by omega
   simp +contextual (maxSteps := 2000000) (disch := omega) [-Int.not_lt, -Int.not_le, -Nat.not_lt, -Nat.not_le, sx, hlt', h0']
   refine aa0 [.e 0, .l 999 0] rfl rfl (by simp) ?_
   simp
   have hpO := ao0 (bs ++ aO0 M i) [[44, 32]] (by simp; omega) (by simp)
   try simp [ae0, ad0] at hpO
   refine ab0 17 hpO (by simp) ?_
   clear hpO
   simp +contextual (maxSteps := 2000000) (disch := omega) [-Int.not_lt, -Int.not_le, -Nat.not_lt, -Nat.not_le, sx]
   refine aa0 [.e 0, .l 17 0] rfl rfl (by simp) ?_
   simp
   have hpO := hP (bs ++ aO0 M i ++ [44, 32]) (by simp; omega)
   try simp [ae0, ad0] at hpO
   refine ab0 20 hpO (by simp) ?_
   clear hpO
   simp +contextual (maxSteps := 2000000) (disch := omega) [-Int.not_lt, -Int.not_le, -Nat.not_lt, -Nat.not_le, sx]
   refine .of hlt (Wk.rens (.l 20 0) (.l 999 0) rfl (by simp) (by simp [renF, hsucc]) (by simp [renF, bC0, hsucc]))
 ·have hge' : ¬ (i : Int) < xs.length := by omega
  have : i = xs.length := by omega
  subst this
  simp +contextual (maxSteps := 2000000) (disch := omega) [-Int.not_lt, -Int.not_le, -Nat.not_lt, -Nat.not_le, sx, hge']
  refine endN _ _ (Wk.refl _ _) [.l 999 0] (by simp) ?_
  simp +contextual (maxSteps := 2000000) (disch := omega) [-Int.not_lt, -Int.not_le, -Nat.not_lt, -Nat.not_le, sx, ad0]
theorem kj0 : ∀ {l : List Exq} {ts : List Bs}, shL l = some ts -> ts.length = l.length /\ ∀ i (hi : i < l.length) (hi2 : i < ts.length), shE l[i] = some ts[i]
 | [], ts, h => by simp [shL] at h; subst h; exact ⟨rfl, fun i hi => by simp at hi⟩
 | x :: l, ts, h => by
  rw [shL] at h
  split at h
  ·rename_i a b h1 h2
   injection h with h; subst h
   obtain ⟨g1, g2⟩ := kj0 h2
   refine ⟨by simp [g1], fun i hi hi2 => ?_⟩
   cases i with
   | zero => exact h1
   | succ i => exact g2 i (by simpa using hi) (by simpa using hi2)
  ·cases h
theorem op0 : ∀ {l : List Exq}, plL l = true -> ∀ x ∈ l, plE x = true
 | [], _, x, hx => by simp at hx
 | y :: l, h, x, hx => by
  rw [plL, Bool.and_eq_true] at h
  rcases List.mem_cons.1 hx with rfl | hx
  ·exact h.1
  ·exact op0 h.2 x hx
theorem nI0 {s : Bs} (h : fR0 s = true) : s.length <= 16 := by
 unfold fR0 at h
 simp only [Bool.and_eq_true, decide_eq_true_eq] at h
 exact h.1.1.1.2
theorem gt0 {s : Bs} (h : fR0 s = true) : J prog dY0 [vS (bS s)] [] (· = .ret (vS (bS s)) []) := by
 have hJ := lW0 s (by have := nI0 h; omega)
 rw [h] at hJ; exact hJ
theorem ne0 (s : ByteArray) : bS (sB s) = s := rfl
set_option maxHeartbeats 3200000 in
theorem expr_int (num : Int) (op : Int) (text : ByteArray) (slot : Int) (type : ByteArray) (at_ : Int) (h0 : 0 <= num) (h1 : num < 9223372036854775808) : cZ0 (.mk 1 op num text slot type [] at_) (numB num) := by
 intro bs hl
 have hi : pv0 num = bS (numB num) := rfl
 refine aq0 aG0 (by simp [ae0]) ?_
 rw [Exq.V, Exq.ac0]
 simp +contextual (maxSteps := 2000000) (disch := omega) [-Int.not_lt, -Int.not_le, -Nat.not_lt, -Nat.not_le, sx, aA0, ae0, hpE, Exq.kind, Exq.op, Exq.num, Exq.text, Exq.slot, Exq.type, Exq.args, Exq.at_]
 refine aa0 [] rfl rfl (by simp) ?_
 simp
 have hpO := aj0
 try simp [ae0, ad0] at hpO
 refine ab0 23 hpO (by simp) ?_
 clear hpO
 simp +contextual (maxSteps := 2000000) (disch := omega) [-Int.not_lt, -Int.not_le, -Nat.not_lt, -Nat.not_le, sx]
 refine aa0 [] rfl rfl (by simp) ?_
 simp
 have hpO := aj0
 try simp [ae0, ad0] at hpO
 refine ab0 32 hpO (by simp) ?_
 clear hpO
 simp +contextual (maxSteps := 2000000) (disch := omega) [-Int.not_lt, -Int.not_le, -Nat.not_lt, -Nat.not_le, sx]
 refine ai0 ?_; simp; refine ah0 (gO0 num (by omega) h1) (by simp) ?_
 rw [hi]
 simp +contextual (maxSteps := 2000000) (disch := omega) [-Int.not_lt, -Int.not_le, -Nat.not_lt, -Nat.not_le, sx]
 refine aa0 [.e 0, .e 1] rfl rfl (by simp) ?_
 simp
 have hpO := ao0 bs [numB num] (by simp; omega) (by simp)
 try simp [ae0, ad0] at hpO
 refine ab0 38 hpO (by simp) ?_
 clear hpO
 simp +contextual (maxSteps := 2000000) (disch := omega) [-Int.not_lt, -Int.not_le, -Nat.not_lt, -Nat.not_le, sx]
 refine endN _ _ (Wk.refl _ _) [.l 38 0] (by simp) ?_
 simp +contextual (maxSteps := 2000000) (disch := omega) [-Int.not_lt, -Int.not_le, -Nat.not_lt, -Nat.not_le, sx, ad0]
set_option maxHeartbeats 3200000 in
theorem pk0 (op : Int) (text : ByteArray) (slot : Int) (type : ByteArray) (at_ : Int) : cZ0 (.mk 2 op 0 text slot type [] at_) fA0 := by
 intro bs hl
 refine aq0 aG0 (by simp [ae0]) ?_
 rw [Exq.V, Exq.ac0]
 simp +contextual (maxSteps := 2000000) (disch := omega) [-Int.not_lt, -Int.not_le, -Nat.not_lt, -Nat.not_le, sx, aA0, ae0, hpE, Exq.kind, Exq.op, Exq.num, Exq.text, Exq.slot, Exq.type, Exq.args, Exq.at_]
 refine aa0 [] rfl rfl (by simp) ?_
 simp
 have hpO := aj0
 try simp [ae0, ad0] at hpO
 refine ab0 23 hpO (by simp) ?_
 clear hpO
 simp +contextual (maxSteps := 2000000) (disch := omega) [-Int.not_lt, -Int.not_le, -Nat.not_lt, -Nat.not_le, sx]
 refine aa0 [] rfl rfl (by simp) ?_
 simp
 have hpO := aj0
 try simp [ae0, ad0] at hpO
 refine ab0 49 hpO (by simp) ?_
 clear hpO
 simp +contextual (maxSteps := 2000000) (disch := omega) [-Int.not_lt, -Int.not_le, -Nat.not_lt, -Nat.not_le, sx]
 refine ai0 ?_; simp; refine ah0 (hI0 false) (by simp) ?_
 simp +contextual (maxSteps := 2000000) (disch := omega) [-Int.not_lt, -Int.not_le, -Nat.not_lt, -Nat.not_le, sx]
 refine aa0 [.e 0, .e 1] rfl rfl (by simp) ?_
 simp
 have hpO := ao0 bs [fA0] (by simp; omega) (by simp)
 try simp [ae0, ad0] at hpO
 refine ab0 56 hpO (by simp) ?_
 clear hpO
 simp +contextual (maxSteps := 2000000) (disch := omega) [-Int.not_lt, -Int.not_le, -Nat.not_lt, -Nat.not_le, sx]
 refine endN _ _ (Wk.refl _ _) [.l 56 0] (by simp) ?_
 simp +contextual (maxSteps := 2000000) (disch := omega) [-Int.not_lt, -Int.not_le, -Nat.not_lt, -Nat.not_le, sx, ad0]
set_option maxHeartbeats 3200000 in
theorem pl0 (op : Int) (text : ByteArray) (slot : Int) (type : ByteArray) (at_ : Int) : cZ0 (.mk 2 op 1 text slot type [] at_) h10 := by
 intro bs hl
 refine aq0 aG0 (by simp [ae0]) ?_
 rw [Exq.V, Exq.ac0]
 simp +contextual (maxSteps := 2000000) (disch := omega) [-Int.not_lt, -Int.not_le, -Nat.not_lt, -Nat.not_le, sx, aA0, ae0, hpE, Exq.kind, Exq.op, Exq.num, Exq.text, Exq.slot, Exq.type, Exq.args, Exq.at_]
 refine aa0 [] rfl rfl (by simp) ?_
 simp
 have hpO := aj0
 try simp [ae0, ad0] at hpO
 refine ab0 23 hpO (by simp) ?_
 clear hpO
 simp +contextual (maxSteps := 2000000) (disch := omega) [-Int.not_lt, -Int.not_le, -Nat.not_lt, -Nat.not_le, sx]
 refine aa0 [] rfl rfl (by simp) ?_
 simp
 have hpO := aj0
 try simp [ae0, ad0] at hpO
 refine ab0 49 hpO (by simp) ?_
 clear hpO
 simp +contextual (maxSteps := 2000000) (disch := omega) [-Int.not_lt, -Int.not_le, -Nat.not_lt, -Nat.not_le, sx]
 refine ai0 ?_; simp; refine ah0 (hI0 true) (by simp) ?_
 simp +contextual (maxSteps := 2000000) (disch := omega) [-Int.not_lt, -Int.not_le, -Nat.not_lt, -Nat.not_le, sx]
 refine aa0 [.e 0, .e 1] rfl rfl (by simp) ?_
 simp
 have hpO := ao0 bs [h10] (by simp; omega) (by simp)
 try simp [ae0, ad0] at hpO
 refine ab0 56 hpO (by simp) ?_
 clear hpO
 simp +contextual (maxSteps := 2000000) (disch := omega) [-Int.not_lt, -Int.not_le, -Nat.not_lt, -Nat.not_le, sx]
 refine endN _ _ (Wk.refl _ _) [.l 56 0] (by simp) ?_
 simp +contextual (maxSteps := 2000000) (disch := omega) [-Int.not_lt, -Int.not_le, -Nat.not_lt, -Nat.not_le, sx, ad0]
set_option maxHeartbeats 3200000 in
theorem expr_name (num : Int) (op : Int) (text : ByteArray) (slot : Int) (type : ByteArray) (at_ : Int) (h : fR0 (sB text) = true) : cZ0 (.mk 6 op num text slot type [] at_) (sB text) := by
 intro bs hl
 have hN := gt0 h
 rw [ne0] at hN
 refine aq0 aG0 (by simp [ae0]) ?_
 rw [Exq.V, Exq.ac0]
 simp +contextual (maxSteps := 2000000) (disch := omega) [-Int.not_lt, -Int.not_le, -Nat.not_lt, -Nat.not_le, sx, aA0, ae0, hpE, Exq.kind, Exq.op, Exq.num, Exq.text, Exq.slot, Exq.type, Exq.args, Exq.at_]
 refine aa0 [] rfl rfl (by simp) ?_
 simp
 have hpO := aj0
 try simp [ae0, ad0] at hpO
 refine ab0 23 hpO (by simp) ?_
 clear hpO
 simp +contextual (maxSteps := 2000000) (disch := omega) [-Int.not_lt, -Int.not_le, -Nat.not_lt, -Nat.not_le, sx]
 refine aa0 [] rfl rfl (by simp) ?_
 simp
 have hpO := hN
 try simp [ae0, ad0] at hpO
 refine ab0 74 hpO (by simp) ?_
 clear hpO
 simp +contextual (maxSteps := 2000000) (disch := omega) [-Int.not_lt, -Int.not_le, -Nat.not_lt, -Nat.not_le, sx]
 refine aa0 [.e 0, .e 1] rfl rfl (by simp) ?_
 simp
 have hpO := ao0 bs [sB text] (by simp only [List.flatten_cons, List.flatten_nil, List.append_nil]; omega) (by simp)
 try simp [ae0, ad0] at hpO
 refine ab0 76 hpO (by simp) ?_
 clear hpO
 simp +contextual (maxSteps := 2000000) (disch := omega) [-Int.not_lt, -Int.not_le, -Nat.not_lt, -Nat.not_le, sx]
 refine endN _ _ (Wk.refl _ _) [.l 76 0] (by simp) ?_
 simp +contextual (maxSteps := 2000000) (disch := omega) [-Int.not_lt, -Int.not_le, -Nat.not_lt, -Nat.not_le, sx, ad0]
set_option maxHeartbeats 3200000 in
theorem expr_call (num : Int) (op : Int) (text : ByteArray) (slot : Int) (type : ByteArray) (at_ : Int) (xs : List Exq) (ts : List Bs) (h : fR0 (sB text) = true) (hlen : ts.length = xs.length) (hx : xs.length < 2 ^ 30) (hp : ∀ i (hi : i < xs.length), cZ0 xs[i] (ts[i]'(by omega))) :
  cZ0 (.mk 7 op num text slot type xs at_) (sB text ++ [40] ++ sepB ts ++ [41]) := by
 intro bs hl
 simp only [List.length_append, List.length_cons, List.length_nil] at hl
 have hN := gt0 h
 rw [ne0] at hN
 refine aq0 aG0 (by simp [ae0]) ?_
 rw [Exq.V, Exq.ac0]
 simp +contextual (maxSteps := 2000000) (disch := omega) [-Int.not_lt, -Int.not_le, -Nat.not_lt, -Nat.not_le, sx, aA0, ae0, hpE, Exq.kind, Exq.op, Exq.num, Exq.text, Exq.slot, Exq.type, Exq.args, Exq.at_]
 refine aa0 [] rfl rfl (by simp) ?_
 simp
 have hpO := aj0
 try simp [ae0, ad0] at hpO
 refine ab0 23 hpO (by simp) ?_
 clear hpO
 simp +contextual (maxSteps := 2000000) (disch := omega) [-Int.not_lt, -Int.not_le, -Nat.not_lt, -Nat.not_le, sx]
 refine aa0 [] rfl rfl (by simp) ?_
 simp
 have hpO := hN
 try simp [ae0, ad0] at hpO
 refine ab0 82 hpO (by simp) ?_
 clear hpO
 simp +contextual (maxSteps := 2000000) (disch := omega) [-Int.not_lt, -Int.not_le, -Nat.not_lt, -Nat.not_le, sx]
 refine aa0 [.e 0, .e 1] rfl rfl (by simp) ?_
 simp
 have hpO := ao0 bs [sB text, [40]] (by simp only [List.flatten_cons, List.flatten_nil, List.append_nil, List.length_append, List.length_cons, List.length_nil]; omega) (by simp)
 try simp [ae0, ad0] at hpO
 refine ab0 84 hpO (by simp) ?_
 clear hpO
 simp +contextual (maxSteps := 2000000) (disch := omega) [-Int.not_lt, -Int.not_le, -Nat.not_lt, -Nat.not_le, sx]
 refine aa0 [.e 0, .l 84 0] rfl rfl (by simp) ?_
 simp
 have hpO := list_spec xs ts hlen hx hp (bs ++ [sB text, [40]].flatten) (by simp only [List.flatten_cons, List.flatten_nil, List.append_nil, List.length_append, List.length_cons, List.length_nil]; omega)
 try simp [ae0, ad0] at hpO
 refine ab0 88 hpO (by simp) ?_
 clear hpO
 simp +contextual (maxSteps := 2000000) (disch := omega) [-Int.not_lt, -Int.not_le, -Nat.not_lt, -Nat.not_le, sx]
 refine aa0 [.e 0, .l 88 0] rfl rfl (by simp) ?_
 simp
 have hpO := ao0 (bs ++ [sB text, [40]].flatten ++ sepB ts) [[41]] (by simp only [List.flatten_cons, List.flatten_nil, List.append_nil, List.length_append, List.length_cons, List.length_nil]; omega) (by simp)
 try simp [ae0, ad0] at hpO
 refine ab0 91 hpO (by simp) ?_
 clear hpO
 simp +contextual (maxSteps := 2000000) (disch := omega) [-Int.not_lt, -Int.not_le, -Nat.not_lt, -Nat.not_le, sx]
 refine endN _ _ (Wk.refl _ _) [.l 91 0] (by simp) ?_
 simp +contextual (maxSteps := 2000000) (disch := omega) [-Int.not_lt, -Int.not_le, -Nat.not_lt, -Nat.not_le, sx, ad0]
set_option maxHeartbeats 3200000 in
theorem expr_at (num : Int) (op : Int) (text : ByteArray) (slot : Int) (type : ByteArray) (at_ : Int) (x y : Exq) (a b : Bs) (hx : cZ0 x a) (hy : cZ0 y b) : cZ0 (.mk 12 op num text slot type [x, y] at_) (within a (oh0 x) ++ [91] ++ b ++ [93]) := by
 intro bs hl
 simp only [List.length_append, List.length_cons, List.length_nil] at hl
 generalize hb : oh0 x = q at *
 refine aq0 aG0 (by simp [ae0]) ?_
 rw [Exq.V, Exq.ac0]
 simp +contextual (maxSteps := 2000000) (disch := omega) [-Int.not_lt, -Int.not_le, -Nat.not_lt, -Nat.not_le, sx, aA0, ae0, hpE, Exq.kind, Exq.op, Exq.num, Exq.text, Exq.slot, Exq.type, Exq.args, Exq.at_]
 refine aa0 [] rfl rfl (by simp) ?_
 simp
 have hpO := aj0
 try simp [ae0, ad0] at hpO
 refine ab0 23 hpO (by simp) ?_
 clear hpO
 have cs : (x.kind = 15 /\ q = true) \/ (¬ x.kind = 15 /\ x.kind = 13 /\ q = true) \/ (¬ x.kind = 15 /\ ¬ x.kind = 13 /\ x.kind = 14 /\ q = true) \/ (¬ x.kind = 15 /\ ¬ x.kind = 13 /\ ¬ x.kind = 14 /\ q = false) := by
  subst hb
  by_cases c1 : x.kind = 15
  ·exact .inl ⟨c1, by simp [oh0, c1]⟩
  by_cases c2 : x.kind = 13
  ·exact .inr (.inl ⟨c1, c2, by simp [oh0, c2]⟩)
  by_cases c3 : x.kind = 14
  ·exact .inr (.inr (.inl ⟨c1, c2, c3, by simp [oh0, c3]⟩))
  ·exact .inr (.inr (.inr ⟨c1, c2, c3, by simp [oh0, c1, c2, c3]⟩))
 rcases cs with ⟨c1, rfl⟩ | ⟨c1, c2, rfl⟩ | ⟨c1, c2, c3, rfl⟩ | ⟨c1, c2, c3, rfl⟩
 ·skip
  simp +contextual (maxSteps := 2000000) (disch := omega) [-Int.not_lt, -Int.not_le, -Nat.not_lt, -Nat.not_le, sx, c1]
  refine aa0 [.e 0, .e 1] rfl rfl (by simp) ?_
  simp
  have hpO := bS0 hx true bs (by omega)
  try simp [ae0, ad0] at hpO
  refine ab0 114 hpO (by simp) ?_
  clear hpO
  simp +contextual (maxSteps := 2000000) (disch := omega) [-Int.not_lt, -Int.not_le, -Nat.not_lt, -Nat.not_le, sx]
  refine aa0 [.e 0, .l 114 0] rfl rfl (by simp) ?_
  simp
  have hpO := ao0 (bs ++ within a true) [[91]] (by simp only [List.flatten_cons, List.flatten_nil, List.append_nil, List.length_append, List.length_cons, List.length_nil]; omega) (by simp)
  try simp [ae0, ad0] at hpO
  refine ab0 117 hpO (by simp) ?_
  clear hpO
  simp +contextual (maxSteps := 2000000) (disch := omega) [-Int.not_lt, -Int.not_le, -Nat.not_lt, -Nat.not_le, sx]
  refine aa0 [.e 0, .l 117 0] rfl rfl (by simp) ?_
  simp
  have hpO := hy (bs ++ within a true ++ [[91]].flatten) (by simp only [List.flatten_cons, List.flatten_nil, List.append_nil, List.length_append, List.length_cons, List.length_nil]; omega)
  try simp [ae0, ad0] at hpO
  refine ab0 123 hpO (by simp) ?_
  clear hpO
  simp +contextual (maxSteps := 2000000) (disch := omega) [-Int.not_lt, -Int.not_le, -Nat.not_lt, -Nat.not_le, sx]
  refine aa0 [.e 0, .l 123 0] rfl rfl (by simp) ?_
  simp
  have hpO := ao0 (bs ++ within a true ++ [[91]].flatten ++ b) [[93]] (by simp only [List.flatten_cons, List.flatten_nil, List.append_nil, List.length_append, List.length_cons, List.length_nil]; omega) (by simp)
  try simp [ae0, ad0] at hpO
  refine ab0 126 hpO (by simp) ?_
  clear hpO
  simp +contextual (maxSteps := 2000000) (disch := omega) [-Int.not_lt, -Int.not_le, -Nat.not_lt, -Nat.not_le, sx]
  refine endN _ _ (Wk.refl _ _) [.l 126 0] (by simp) ?_
  simp +contextual (maxSteps := 2000000) (disch := omega) [-Int.not_lt, -Int.not_le, -Nat.not_lt, -Nat.not_le, sx, ad0]
 ·skip
  simp +contextual (maxSteps := 2000000) (disch := omega) [-Int.not_lt, -Int.not_le, -Nat.not_lt, -Nat.not_le, sx, c1, c2]
  refine aa0 [.e 0, .e 1] rfl rfl (by simp) ?_
  simp
  have hpO := bS0 hx true bs (by omega)
  try simp [ae0, ad0] at hpO
  refine ab0 114 hpO (by simp) ?_
  clear hpO
  simp +contextual (maxSteps := 2000000) (disch := omega) [-Int.not_lt, -Int.not_le, -Nat.not_lt, -Nat.not_le, sx]
  refine aa0 [.e 0, .l 114 0] rfl rfl (by simp) ?_
  simp
  have hpO := ao0 (bs ++ within a true) [[91]] (by simp only [List.flatten_cons, List.flatten_nil, List.append_nil, List.length_append, List.length_cons, List.length_nil]; omega) (by simp)
  try simp [ae0, ad0] at hpO
  refine ab0 117 hpO (by simp) ?_
  clear hpO
  simp +contextual (maxSteps := 2000000) (disch := omega) [-Int.not_lt, -Int.not_le, -Nat.not_lt, -Nat.not_le, sx]
  refine aa0 [.e 0, .l 117 0] rfl rfl (by simp) ?_
  simp
  have hpO := hy (bs ++ within a true ++ [[91]].flatten) (by simp only [List.flatten_cons, List.flatten_nil, List.append_nil, List.length_append, List.length_cons, List.length_nil]; omega)
  try simp [ae0, ad0] at hpO
  refine ab0 123 hpO (by simp) ?_
  clear hpO
  simp +contextual (maxSteps := 2000000) (disch := omega) [-Int.not_lt, -Int.not_le, -Nat.not_lt, -Nat.not_le, sx]
  refine aa0 [.e 0, .l 123 0] rfl rfl (by simp) ?_
  simp
  have hpO := ao0 (bs ++ within a true ++ [[91]].flatten ++ b) [[93]] (by simp only [List.flatten_cons, List.flatten_nil, List.append_nil, List.length_append, List.length_cons, List.length_nil]; omega) (by simp)
  try simp [ae0, ad0] at hpO
  refine ab0 126 hpO (by simp) ?_
  clear hpO
  simp +contextual (maxSteps := 2000000) (disch := omega) [-Int.not_lt, -Int.not_le, -Nat.not_lt, -Nat.not_le, sx]
  refine endN _ _ (Wk.refl _ _) [.l 126 0] (by simp) ?_
  simp +contextual (maxSteps := 2000000) (disch := omega) [-Int.not_lt, -Int.not_le, -Nat.not_lt, -Nat.not_le, sx, ad0]
 ·skip
  simp +contextual (maxSteps := 2000000) (disch := omega) [-Int.not_lt, -Int.not_le, -Nat.not_lt, -Nat.not_le, sx, c1, c2, c3]
  refine aa0 [.e 0, .e 1] rfl rfl (by simp) ?_
  simp
  have hpO := bS0 hx true bs (by omega)
  try simp [ae0, ad0] at hpO
  refine ab0 114 hpO (by simp) ?_
  clear hpO
  simp +contextual (maxSteps := 2000000) (disch := omega) [-Int.not_lt, -Int.not_le, -Nat.not_lt, -Nat.not_le, sx]
  refine aa0 [.e 0, .l 114 0] rfl rfl (by simp) ?_
  simp
  have hpO := ao0 (bs ++ within a true) [[91]] (by simp only [List.flatten_cons, List.flatten_nil, List.append_nil, List.length_append, List.length_cons, List.length_nil]; omega) (by simp)
  try simp [ae0, ad0] at hpO
  refine ab0 117 hpO (by simp) ?_
  clear hpO
  simp +contextual (maxSteps := 2000000) (disch := omega) [-Int.not_lt, -Int.not_le, -Nat.not_lt, -Nat.not_le, sx]
  refine aa0 [.e 0, .l 117 0] rfl rfl (by simp) ?_
  simp
  have hpO := hy (bs ++ within a true ++ [[91]].flatten) (by simp only [List.flatten_cons, List.flatten_nil, List.append_nil, List.length_append, List.length_cons, List.length_nil]; omega)
  try simp [ae0, ad0] at hpO
  refine ab0 123 hpO (by simp) ?_
  clear hpO
  simp +contextual (maxSteps := 2000000) (disch := omega) [-Int.not_lt, -Int.not_le, -Nat.not_lt, -Nat.not_le, sx]
  refine aa0 [.e 0, .l 123 0] rfl rfl (by simp) ?_
  simp
  have hpO := ao0 (bs ++ within a true ++ [[91]].flatten ++ b) [[93]] (by simp only [List.flatten_cons, List.flatten_nil, List.append_nil, List.length_append, List.length_cons, List.length_nil]; omega) (by simp)
  try simp [ae0, ad0] at hpO
  refine ab0 126 hpO (by simp) ?_
  clear hpO
  simp +contextual (maxSteps := 2000000) (disch := omega) [-Int.not_lt, -Int.not_le, -Nat.not_lt, -Nat.not_le, sx]
  refine endN _ _ (Wk.refl _ _) [.l 126 0] (by simp) ?_
  simp +contextual (maxSteps := 2000000) (disch := omega) [-Int.not_lt, -Int.not_le, -Nat.not_lt, -Nat.not_le, sx, ad0]
 ·have c3q : (x.kind == 14) = false := by simp [c3]
  simp +contextual (maxSteps := 2000000) (disch := omega) [-Int.not_lt, -Int.not_le, -Nat.not_lt, -Nat.not_le, sx, c1, c2, c3, c3q]
  refine aa0 [.e 0, .e 1] rfl rfl (by simp) ?_
  simp
  have hpO := bS0 hx false bs (by omega)
  try simp [ae0, ad0] at hpO
  refine ab0 114 hpO (by simp) ?_
  clear hpO
  simp +contextual (maxSteps := 2000000) (disch := omega) [-Int.not_lt, -Int.not_le, -Nat.not_lt, -Nat.not_le, sx]
  refine aa0 [.e 0, .l 114 0] rfl rfl (by simp) ?_
  simp
  have hpO := ao0 (bs ++ within a false) [[91]] (by simp only [List.flatten_cons, List.flatten_nil, List.append_nil, List.length_append, List.length_cons, List.length_nil]; omega) (by simp)
  try simp [ae0, ad0] at hpO
  refine ab0 117 hpO (by simp) ?_
  clear hpO
  simp +contextual (maxSteps := 2000000) (disch := omega) [-Int.not_lt, -Int.not_le, -Nat.not_lt, -Nat.not_le, sx]
  refine aa0 [.e 0, .l 117 0] rfl rfl (by simp) ?_
  simp
  have hpO := hy (bs ++ within a false ++ [[91]].flatten) (by simp only [List.flatten_cons, List.flatten_nil, List.append_nil, List.length_append, List.length_cons, List.length_nil]; omega)
  try simp [ae0, ad0] at hpO
  refine ab0 123 hpO (by simp) ?_
  clear hpO
  simp +contextual (maxSteps := 2000000) (disch := omega) [-Int.not_lt, -Int.not_le, -Nat.not_lt, -Nat.not_le, sx]
  refine aa0 [.e 0, .l 123 0] rfl rfl (by simp) ?_
  simp
  have hpO := ao0 (bs ++ within a false ++ [[91]].flatten ++ b) [[93]] (by simp only [List.flatten_cons, List.flatten_nil, List.append_nil, List.length_append, List.length_cons, List.length_nil]; omega) (by simp)
  try simp [ae0, ad0] at hpO
  refine ab0 126 hpO (by simp) ?_
  clear hpO
  simp +contextual (maxSteps := 2000000) (disch := omega) [-Int.not_lt, -Int.not_le, -Nat.not_lt, -Nat.not_le, sx]
  refine endN _ _ (Wk.refl _ _) [.l 126 0] (by simp) ?_
  simp +contextual (maxSteps := 2000000) (disch := omega) [-Int.not_lt, -Int.not_le, -Nat.not_lt, -Nat.not_le, sx, ad0]
set_option maxHeartbeats 3200000 in
theorem oc0 (num : Int) (op : Int) (text : ByteArray) (slot : Int) (type : ByteArray) (at_ : Int) (x : Exq) (a : Bs) (hx : cZ0 x a) : cZ0 (.mk 13 op num text slot type [x] at_) ([45] ++ within a (decide (x.kind = 15))) := by
 intro bs hl
 simp only [List.length_append, List.length_cons, List.length_nil] at hl
 obtain ⟨q, hq⟩ : ∃ q, decide (x.kind = 15) = q := ⟨_, rfl⟩
 rw [hq] at hl ⊢
 have hq2 : (x.kind == 15) = q := by rw [<- hq]; rfl
 have e1 : (bS [45, 33]).extract 0 2 = bS [45, 33] := by rw [cu0]; rfl
 have e2 : (bS [45, 33]).extract 0 1 = bS [45] := by rw [cu0]; rfl
 refine aq0 aG0 (by simp [ae0]) ?_
 rw [Exq.V, Exq.ac0]
 simp +contextual (maxSteps := 2000000) (disch := omega) [-Int.not_lt, -Int.not_le, -Nat.not_lt, -Nat.not_le, sx, aA0, ae0, hpE, Exq.kind, Exq.op, Exq.num, Exq.text, Exq.slot, Exq.type, Exq.args, Exq.at_]
 refine aa0 [] rfl rfl (by simp) ?_
 simp
 have hpO := aj0
 try simp [ae0, ad0] at hpO
 refine ab0 23 hpO (by simp) ?_
 clear hpO
 simp +contextual (maxSteps := 2000000) (disch := omega) [-Int.not_lt, -Int.not_le, -Nat.not_lt, -Nat.not_le, sx, e1, e2, gj0]
 refine aa0 [.e 0, .e 1] rfl rfl (by simp) ?_
 simp
 have hpO := ao0 bs [[45]] (by simp only [List.flatten_cons, List.flatten_nil, List.append_nil, List.length_append, List.length_cons, List.length_nil]; omega) (by simp)
 try simp [ae0, ad0] at hpO
 refine ab0 137 hpO (by simp) ?_
 clear hpO
 simp +contextual (maxSteps := 2000000) (disch := omega) [-Int.not_lt, -Int.not_le, -Nat.not_lt, -Nat.not_le, sx, hq2]
 refine aa0 [.e 0, .l 137 0] rfl rfl (by simp) ?_
 simp
 have hpO := bS0 hx q (bs ++ [[45]].flatten) (by simp only [List.flatten_cons, List.flatten_nil, List.append_nil, List.length_append, List.length_cons, List.length_nil]; omega)
 try simp [ae0, ad0] at hpO
 refine ab0 149 hpO (by simp) ?_
 clear hpO
 simp +contextual (maxSteps := 2000000) (disch := omega) [-Int.not_lt, -Int.not_le, -Nat.not_lt, -Nat.not_le, sx]
 refine endN _ _ (Wk.refl _ _) [.l 149 0] (by simp) ?_
 simp +contextual (maxSteps := 2000000) (disch := omega) [-Int.not_lt, -Int.not_le, -Nat.not_lt, -Nat.not_le, sx, ad0]
set_option maxHeartbeats 3200000 in
theorem od0 (num : Int) (op : Int) (text : ByteArray) (slot : Int) (type : ByteArray) (at_ : Int) (x : Exq) (a : Bs) (hx : cZ0 x a) : cZ0 (.mk 14 op num text slot type [x] at_) ([33] ++ within a (decide (x.kind = 15))) := by
 intro bs hl
 simp only [List.length_append, List.length_cons, List.length_nil] at hl
 obtain ⟨q, hq⟩ : ∃ q, decide (x.kind = 15) = q := ⟨_, rfl⟩
 rw [hq] at hl ⊢
 have hq2 : (x.kind == 15) = q := by rw [<- hq]; rfl
 have e1 : (bS [45, 33]).extract 1 2 = bS [33] := by rw [cu0]; rfl
 have e2 : (bS [33]).extract 0 1 = bS [33] := by rw [cu0]; rfl
 refine aq0 aG0 (by simp [ae0]) ?_
 rw [Exq.V, Exq.ac0]
 simp +contextual (maxSteps := 2000000) (disch := omega) [-Int.not_lt, -Int.not_le, -Nat.not_lt, -Nat.not_le, sx, aA0, ae0, hpE, Exq.kind, Exq.op, Exq.num, Exq.text, Exq.slot, Exq.type, Exq.args, Exq.at_]
 refine aa0 [] rfl rfl (by simp) ?_
 simp
 have hpO := aj0
 try simp [ae0, ad0] at hpO
 refine ab0 23 hpO (by simp) ?_
 clear hpO
 simp +contextual (maxSteps := 2000000) (disch := omega) [-Int.not_lt, -Int.not_le, -Nat.not_lt, -Nat.not_le, sx, e1, e2, gj0]
 refine aa0 [.e 0, .e 1] rfl rfl (by simp) ?_
 simp
 have hpO := ao0 bs [[33]] (by simp only [List.flatten_cons, List.flatten_nil, List.append_nil, List.length_append, List.length_cons, List.length_nil]; omega) (by simp)
 try simp [ae0, ad0] at hpO
 refine ab0 137 hpO (by simp) ?_
 clear hpO
 simp +contextual (maxSteps := 2000000) (disch := omega) [-Int.not_lt, -Int.not_le, -Nat.not_lt, -Nat.not_le, sx, hq2]
 refine aa0 [.e 0, .l 137 0] rfl rfl (by simp) ?_
 simp
 have hpO := bS0 hx q (bs ++ [[33]].flatten) (by simp only [List.flatten_cons, List.flatten_nil, List.append_nil, List.length_append, List.length_cons, List.length_nil]; omega)
 try simp [ae0, ad0] at hpO
 refine ab0 149 hpO (by simp) ?_
 clear hpO
 simp +contextual (maxSteps := 2000000) (disch := omega) [-Int.not_lt, -Int.not_le, -Nat.not_lt, -Nat.not_le, sx]
 refine endN _ _ (Wk.refl _ _) [.l 149 0] (by simp) ?_
 simp +contextual (maxSteps := 2000000) (disch := omega) [-Int.not_lt, -Int.not_le, -Nat.not_lt, -Nat.not_le, sx, ad0]
set_option maxHeartbeats 3200000 in
theorem expr_bin (num : Int) (op : Int) (text : ByteArray) (slot : Int) (type : ByteArray) (at_ : Int) (x y : Exq) (a b : Bs) (hop : opOk op = true) (hx : cZ0 x a) (hy : cZ0 y b) (ox : x.kind = 15 -> opOk x.op = true) (oy : y.kind = 15 -> opOk y.op = true) :
  cZ0 (.mk 15 op num text slot type [x, y] at_) (within a (e90 x (if lvl op = 3 then 4 else lvl op)) ++ [32] ++ opB op ++ [32] ++ within b (e90 y (lvl op + 1))) := by
 intro bs hl
 simp only [List.length_append, List.length_cons, List.length_nil] at hl
 have hop' := hop
 unfold opOk at hop'
 simp only [decide_eq_true_eq] at hop'
 have hq : op.toNat - 1 < pOps.length := by show op.toNat - 1 < 13; omega
 have hg : pOps[op.toNat - 1] = opB op := by
  unfold opB
  rw [List.getD_eq_getElem?_getD, List.getElem?_eq_getElem hq]; rfl
 have hlv : 1 <= lvl op /\ lvl op <= 5 := by
  unfold lvl
  split
  ·omega
  ·split
   ·omega
   ·split <;> omega
 refine aq0 aG0 (by simp [ae0]) ?_
 rw [Exq.V, Exq.ac0]
 simp +contextual (maxSteps := 2000000) (disch := omega) [-Int.not_lt, -Int.not_le, -Nat.not_lt, -Nat.not_le, sx, aA0, ae0, hpE, Exq.kind, Exq.op, Exq.num, Exq.text, Exq.slot, Exq.type, Exq.args, Exq.at_]
 refine aa0 [] rfl rfl (by simp) ?_
 simp
 have hpO := aj0
 try simp [ae0, ad0] at hpO
 refine ab0 23 hpO (by simp) ?_
 clear hpO
 simp +contextual (maxSteps := 2000000) (disch := omega) [-Int.not_lt, -Int.not_le, -Nat.not_lt, -Nat.not_le, sx]
 refine ai0 ?_; simp; refine ah0 (id0 op hop) (by simp) ?_
 generalize hL : lvl op = L at *
 by_cases h3 : L = 3
 ·subst h3; rw [if_pos rfl, show (3 : Int) + 1 = 4 from rfl] at hl ⊢
  simp +contextual (maxSteps := 2000000) (disch := omega) [-Int.not_lt, -Int.not_le, -Nat.not_lt, -Nat.not_le, sx]
  refine cR0 ?_; simp; refine ah0 (dO0 x 4 ox) (by simp) ?_
  simp +contextual (maxSteps := 2000000) (disch := omega) [-Int.not_lt, -Int.not_le, -Nat.not_lt, -Nat.not_le, sx]
  refine aa0 [.e 0, .e 1] rfl rfl (by simp) ?_
  simp
  have hpO := bS0 hx (e90 x 4) bs (by omega)
  try simp [ae0, ad0] at hpO
  refine ab0 171 hpO (by simp) ?_
  clear hpO
  simp +contextual (maxSteps := 2000000) (disch := omega) [-Int.not_lt, -Int.not_le, -Nat.not_lt, -Nat.not_le, sx]
  refine cR0 ?_; simp; refine ah0 (ie0) (by simp) ?_
  simp +contextual (maxSteps := 2000000) (disch := omega) [-Int.not_lt, -Int.not_le, -Nat.not_lt, -Nat.not_le, sx, hg]
  refine aa0 [.e 0, .l 171 0] rfl rfl (by simp) ?_
  simp
  have hpO := ao0 (bs ++ within a (e90 x 4)) [[32], opB op, [32]] (by simp only [List.flatten_cons, List.flatten_nil, List.append_nil, List.length_append, List.length_cons, List.length_nil]; omega) (by simp)
  try simp [ae0, ad0] at hpO
  refine ab0 180 hpO (by simp) ?_
  clear hpO
  simp +contextual (maxSteps := 2000000) (disch := omega) [-Int.not_lt, -Int.not_le, -Nat.not_lt, -Nat.not_le, sx]
  refine cR0 ?_; simp; refine ah0 (dO0 y (4) oy) (by simp) ?_
  simp +contextual (maxSteps := 2000000) (disch := omega) [-Int.not_lt, -Int.not_le, -Nat.not_lt, -Nat.not_le, sx]
  refine aa0 [.e 0, .l 180 0] rfl rfl (by simp) ?_
  simp
  have hpO := bS0 hy (e90 y (4)) (bs ++ within a (e90 x 4) ++ [[32], opB op, [32]].flatten) (by simp only [List.flatten_cons, List.flatten_nil, List.append_nil, List.length_append, List.length_cons, List.length_nil]; omega)
  try simp [ae0, ad0] at hpO
  refine ab0 193 hpO (by simp) ?_
  clear hpO
  simp +contextual (maxSteps := 2000000) (disch := omega) [-Int.not_lt, -Int.not_le, -Nat.not_lt, -Nat.not_le, sx]
  refine endN _ _ (Wk.refl _ _) [.l 193 0] (by simp) ?_
  simp +contextual (maxSteps := 2000000) (disch := omega) [-Int.not_lt, -Int.not_le, -Nat.not_lt, -Nat.not_le, sx, ad0]
 ·rw [if_neg h3] at hl ⊢
  simp +contextual (maxSteps := 2000000) (disch := omega) [-Int.not_lt, -Int.not_le, -Nat.not_lt, -Nat.not_le, sx, h3]
  refine cR0 ?_; simp; refine ah0 (dO0 x L ox) (by simp) ?_
  simp +contextual (maxSteps := 2000000) (disch := omega) [-Int.not_lt, -Int.not_le, -Nat.not_lt, -Nat.not_le, sx]
  refine aa0 [.e 0, .e 1] rfl rfl (by simp) ?_
  simp
  have hpO := bS0 hx (e90 x L) bs (by omega)
  try simp [ae0, ad0] at hpO
  refine ab0 171 hpO (by simp) ?_
  clear hpO
  simp +contextual (maxSteps := 2000000) (disch := omega) [-Int.not_lt, -Int.not_le, -Nat.not_lt, -Nat.not_le, sx]
  refine cR0 ?_; simp; refine ah0 (ie0) (by simp) ?_
  simp +contextual (maxSteps := 2000000) (disch := omega) [-Int.not_lt, -Int.not_le, -Nat.not_lt, -Nat.not_le, sx, hg]
  refine aa0 [.e 0, .l 171 0] rfl rfl (by simp) ?_
  simp
  have hpO := ao0 (bs ++ within a (e90 x L)) [[32], opB op, [32]] (by simp only [List.flatten_cons, List.flatten_nil, List.append_nil, List.length_append, List.length_cons, List.length_nil]; omega) (by simp)
  try simp [ae0, ad0] at hpO
  refine ab0 180 hpO (by simp) ?_
  clear hpO
  simp +contextual (maxSteps := 2000000) (disch := omega) [-Int.not_lt, -Int.not_le, -Nat.not_lt, -Nat.not_le, sx]
  refine cR0 ?_; simp; refine ah0 (dO0 y (L + 1) oy) (by simp) ?_
  simp +contextual (maxSteps := 2000000) (disch := omega) [-Int.not_lt, -Int.not_le, -Nat.not_lt, -Nat.not_le, sx]
  refine aa0 [.e 0, .l 180 0] rfl rfl (by simp) ?_
  simp
  have hpO := bS0 hy (e90 y (L + 1)) (bs ++ within a (e90 x L) ++ [[32], opB op, [32]].flatten) (by simp only [List.flatten_cons, List.flatten_nil, List.append_nil, List.length_append, List.length_cons, List.length_nil]; omega)
  try simp [ae0, ad0] at hpO
  refine ab0 193 hpO (by simp) ?_
  clear hpO
  simp +contextual (maxSteps := 2000000) (disch := omega) [-Int.not_lt, -Int.not_le, -Nat.not_lt, -Nat.not_le, sx]
  refine endN _ _ (Wk.refl _ _) [.l 193 0] (by simp) ?_
  simp +contextual (maxSteps := 2000000) (disch := omega) [-Int.not_lt, -Int.not_le, -Nat.not_lt, -Nat.not_le, sx, ad0]
end Go.Am
end

section
namespace Go.Am
set_option maxRecDepth 100000
theorem shE_op {x : Exq} {t : Bs} (h : shE x = some t) (hk : x.kind = 15) : opOk x.op = true := by
 obtain ⟨k, op, num, text, slot, type, args, at_⟩ := x
 have hk : k = 15 := hk
 subst hk
 rw [shE.eq_def] at h
 dsimp only at h
 simp only [show ¬ (15 : Int) = 1 by decide, show ¬ (15 : Int) = 2 by decide, show ¬ (15 : Int) = 3 by decide, show ¬ (15 : Int) = 6 by decide, show ¬ (15 : Int) = 7 by decide, show ¬ (15 : Int) = 12 by decide, show ¬ ((15 : Int) = 13 \/ (15 : Int) = 14) by decide, if_false, if_true] at h
 split at h
 all_goals first
  | (cases h; done)
  | skip
 all_goals
  split at h
  ·assumption
  ·cases h
theorem putsE : ∀ (m : Nat) (x : Exq), SizeOf.sizeOf x < m -> plE x = true -> ∀ {t : Bs}, shE x = some t -> cZ0 x t := by
 intro m
 induction m with
 | zero => intro x h; omega
 | succ m ih =>
  intro x hm hp t h
  obtain ⟨k, op, num, text, slot, type, args, at_⟩ := x
  rw [plE, Bool.and_eq_true, decide_eq_true_eq] at hp
  obtain ⟨⟨p1, p2, p3⟩, p4⟩ := hp
  have hsz : ∀ y ∈ args, SizeOf.sizeOf y < m := fun y hy => by
   have := List.sizeOf_lt_of_mem hy
   simp only [Exq.mk.sizeOf_spec] at hm; omega
  have hpl := op0 p4
  rw [shE.eq_def] at h
  dsimp only at h
  by_cases k1 : k = 1
  ·subst k1
   rw [if_pos rfl] at h
   split at h
   ·rename_i hc; obtain ⟨rfl, hc2⟩ := hc
    injection h with h; subst h
    exact expr_int num op text slot type at_ hc2 p2
   ·cases h
  rw [if_neg k1] at h
  by_cases k2 : k = 2
  ·subst k2
   rw [if_pos rfl] at h
   split at h
   ·rename_i hc; obtain ⟨rfl, hc2⟩ := hc
    injection h with h; subst h
    rcases hc2 with rfl | rfl
    ·exact pk0 op text slot type at_
    ·exact pl0 op text slot type at_
   ·cases h
  rw [if_neg k2, if_neg p1] at h
  by_cases k6 : k = 6
  ·subst k6
   rw [if_pos rfl] at h
   split at h
   ·rename_i hc; obtain ⟨rfl, hc2⟩ := hc
    injection h with h; subst h
    exact expr_name num op text slot type at_ hc2
   ·cases h
  rw [if_neg k6] at h
  by_cases k7 : k = 7
  ·subst k7
   rw [if_pos rfl] at h
   split at h
   ·rename_i hc
    cases hL : shL args with
    | none => rw [hL] at h; cases h
    | some ts =>
     rw [hL] at h
     simp only [Option.map_some, Option.some.injEq] at h
     subst h
     obtain ⟨g1, g2⟩ := kj0 hL
     exact expr_call num op text slot type at_ args ts hc g1 p3 fun i hi => ih _ (hsz _ (List.getElem_mem hi)) (hpl _ (List.getElem_mem hi)) (g2 i hi (by omega))
   ·cases h
  rw [if_neg k7] at h
  have parts : ∀ {ts : List Bs}, shL args = some ts -> ts.length = args.length /\ ∀ i (hi : i < args.length) (hi2 : i < ts.length), cZ0 args[i] ts[i] /\ shE args[i] = some ts[i] := fun hL => by
   obtain ⟨g1, g2⟩ := kj0 hL
   exact ⟨g1, fun i hi hi2 => ⟨ih _ (hsz _ (List.getElem_mem hi)) (hpl _ (List.getElem_mem hi)) (g2 i hi hi2), g2 i hi hi2⟩⟩
  by_cases k12 : k = 12
  ·subst k12
   rw [if_pos rfl] at h
   split at h
   all_goals first
    | (cases h; done)
    | skip
   rename_i x y a b hL
   injection h with h; subst h
   obtain ⟨_, g⟩ := parts hL
   exact expr_at num op text slot type at_ x y a b (g 0 (by simp) (by simp)).1 (g 1 (by simp) (by simp)).1
  rw [if_neg k12] at h
  by_cases k13 : k = 13 \/ k = 14
  ·rw [if_pos k13] at h
   split at h
   all_goals first
    | (cases h; done)
    | skip
   rename_i x a hL
   injection h with h; subst h
   obtain ⟨_, g⟩ := parts hL
   rcases k13 with rfl | rfl
   ·exact oc0 num op text slot type at_ x a (g 0 (by simp) (by simp)).1
   ·exact od0 num op text slot type at_ x a (g 0 (by simp) (by simp)).1
  rw [if_neg k13] at h
  by_cases k15 : k = 15
  ·subst k15
   rw [if_pos rfl] at h
   split at h
   all_goals first
    | (cases h; done)
    | skip
   rename_i x y a b hL
   split at h
   ·rename_i hop
    injection h with h; subst h
    obtain ⟨_, g⟩ := parts hL
    exact expr_bin num op text slot type at_ x y a b hop (g 0 (by simp) (by simp)).1 (g 1 (by simp) (by simp)).1 (shE_op (g 0 (by simp) (by simp)).2) (shE_op (g 1 (by simp) (by simp)).2)
   ·cases h
  ·rw [if_neg k15] at h; cases h
end Go.Am
end

section
namespace Go.Am
set_option maxRecDepth 100000
attribute [local irreducible] vc vcIs vcI vcOp vcD vcDp vcDR vcT vcAR b30 aU0 panD neG ne pv J bV0 b00 b90 a90 evK evsK nthK objK boxK rowK bD0 intK strK aggK fnK ifcK at0 av0 ldK ldaK iaK srcK stK appK appD ce0 pvK bU0 aX0 bT0 bv0 slAV bH0
def kW0 (n : Nat) (x : Stm) (t : Bs) : Prop := ∀ bs : Bs, bs.length + t.length < 2 ^ 40 -> J prog di0 [.bp (.e 0) 0, x.V, vS (bS (tabs n))] (ae0 69 bs) (· = .ret (.tup []) (ad0 69 (bs ++ t)))
def lH0 (n : Nat) (l : List Stm) (t : Bs) : Prop := ∀ bs : Bs, bs.length + t.length < 2 ^ 40 -> J prog eT0 [.bp (.e 0) 0, .lst (l.map Stm.cells), vS (bS (tabs n))] (ae0 69 bs) (· = .ret (.tup []) (ad0 69 (bs ++ t)))
set_option maxHeartbeats 3200000 in
theorem st_let (name : ByteArray) (slot : Int) (state : Bool) (num : Int) (body els : List Stm) (at_ : Int) (n : Nat) (x : Exq) (a : Bs) (h : fR0 (sB name) = true) (ha : cZ0 x a) : kW0 n (.mk 1 name slot state num [x] body els at_) (fC0 ++ [32] ++ sB name ++ [32, 61, 32] ++ a ++ [59]) := by
 intro bs hl
 simp only [List.length_append, List.length_cons, List.length_nil, fC0, eC0, fz0, kwIf, cO0, fB0, kwTo, fD0] at hl
 have hN := gt0 h
 rw [ne0] at hN
 refine aq0 ax0 (by simp [ae0]) ?_
 rw [Stm.V, Stm.ac0]
 simp +contextual (maxSteps := 2000000) (disch := omega) [-Int.not_lt, -Int.not_le, -Nat.not_lt, -Nat.not_le, sx, as0, ae0, hpE, Stm.kind, Stm.name, Stm.slot, Stm.state, Stm.num, Stm.e, Stm.body, Stm.els, Stm.at_]
 refine aa0 [] rfl rfl (by simp) ?_
 simp
 have hpO := aj0
 try simp [ae0, ad0] at hpO
 refine ab0 22 hpO (by simp) ?_
 clear hpO
 simp +contextual (maxSteps := 2000000) (disch := omega) [-Int.not_lt, -Int.not_le, -Nat.not_lt, -Nat.not_le, sx]
 refine aa0 [] rfl rfl (by simp) ?_
 simp
 have hpO := hN
 try simp [ae0, ad0] at hpO
 refine ab0 31 hpO (by simp) ?_
 clear hpO
 simp +contextual (maxSteps := 2000000) (disch := omega) [-Int.not_lt, -Int.not_le, -Nat.not_lt, -Nat.not_le, sx]
 refine aa0 [.e 0, .e 1] rfl rfl (by simp) ?_
 simp
 have hpO := ao0 (bs) [[108, 101, 116, 32], sB name, [32, 61, 32]] (by simp only [List.flatten_cons, List.flatten_nil, List.append_nil, List.length_append, List.length_cons, List.length_nil]; omega) (by simp)
 try simp [ae0, ad0] at hpO
 refine ab0 33 hpO (by simp) ?_
 clear hpO
 simp +contextual (maxSteps := 2000000) (disch := omega) [-Int.not_lt, -Int.not_le, -Nat.not_lt, -Nat.not_le, sx]
 refine aa0 [.e 0, .l 33 0] rfl rfl (by simp) ?_
 simp
 have hpO := ha (bs ++ [[108, 101, 116, 32], sB name, [32, 61, 32]].flatten) (by simp only [List.flatten_cons, List.flatten_nil, List.append_nil, List.length_append, List.length_cons, List.length_nil]; omega)
 try simp [ae0, ad0] at hpO
 refine ab0 91 hpO (by simp) ?_
 clear hpO
 simp +contextual (maxSteps := 2000000) (disch := omega) [-Int.not_lt, -Int.not_le, -Nat.not_lt, -Nat.not_le, sx]
 refine aa0 [.e 0, .l 91 0] rfl rfl (by simp) ?_
 simp
 have hpO := ao0 (bs ++ [[108, 101, 116, 32], sB name, [32, 61, 32]].flatten ++ a) [[59]] (by simp only [List.flatten_cons, List.flatten_nil, List.append_nil, List.length_append, List.length_cons, List.length_nil]; omega) (by simp)
 try simp [ae0, ad0] at hpO
 refine ab0 96 hpO (by simp) ?_
 clear hpO
 simp +contextual (maxSteps := 2000000) (disch := omega) [-Int.not_lt, -Int.not_le, -Nat.not_lt, -Nat.not_le, sx]
 refine endN _ _ (Wk.refl _ _) [.l 96 0] (by simp) ?_
 simp +contextual (maxSteps := 2000000) (disch := omega) [-Int.not_lt, -Int.not_le, -Nat.not_lt, -Nat.not_le, sx, ad0, fC0, eC0, fz0, kwIf, cO0, fB0, kwTo, fD0]
set_option maxHeartbeats 3200000 in
theorem st_set1 (name : ByteArray) (slot : Int) (state : Bool) (num : Int) (body els : List Stm) (at_ : Int) (n : Nat) (x : Exq) (a : Bs) (h : fR0 (sB name) = true) (ha : cZ0 x a) : kW0 n (.mk 2 name slot state num [x] body els at_) (eC0 ++ [32] ++ sB name ++ [32, 61, 32] ++ a ++ [59]) := by
 intro bs hl
 simp only [List.length_append, List.length_cons, List.length_nil, fC0, eC0, fz0, kwIf, cO0, fB0, kwTo, fD0] at hl
 have hN := gt0 h
 rw [ne0] at hN
 refine aq0 ax0 (by simp [ae0]) ?_
 rw [Stm.V, Stm.ac0]
 simp +contextual (maxSteps := 2000000) (disch := omega) [-Int.not_lt, -Int.not_le, -Nat.not_lt, -Nat.not_le, sx, as0, ae0, hpE, Stm.kind, Stm.name, Stm.slot, Stm.state, Stm.num, Stm.e, Stm.body, Stm.els, Stm.at_]
 refine aa0 [] rfl rfl (by simp) ?_
 simp
 have hpO := aj0
 try simp [ae0, ad0] at hpO
 refine ab0 22 hpO (by simp) ?_
 clear hpO
 simp +contextual (maxSteps := 2000000) (disch := omega) [-Int.not_lt, -Int.not_le, -Nat.not_lt, -Nat.not_le, sx]
 refine aa0 [] rfl rfl (by simp) ?_
 simp
 have hpO := hN
 try simp [ae0, ad0] at hpO
 refine ab0 39 hpO (by simp) ?_
 clear hpO
 simp +contextual (maxSteps := 2000000) (disch := omega) [-Int.not_lt, -Int.not_le, -Nat.not_lt, -Nat.not_le, sx]
 refine aa0 [.e 0, .e 1] rfl rfl (by simp) ?_
 simp
 have hpO := ao0 (bs) [[115, 101, 116, 32], sB name] (by simp only [List.flatten_cons, List.flatten_nil, List.append_nil, List.length_append, List.length_cons, List.length_nil]; omega) (by simp)
 try simp [ae0, ad0] at hpO
 refine ab0 41 hpO (by simp) ?_
 clear hpO
 simp +contextual (maxSteps := 2000000) (disch := omega) [-Int.not_lt, -Int.not_le, -Nat.not_lt, -Nat.not_le, sx]
 refine aa0 [.e 0, .l 41 0] rfl rfl (by simp) ?_
 simp
 have hpO := ao0 (bs ++ [[115, 101, 116, 32], sB name].flatten) [[32, 61, 32]] (by simp only [List.flatten_cons, List.flatten_nil, List.append_nil, List.length_append, List.length_cons, List.length_nil]; omega) (by simp)
 try simp [ae0, ad0] at hpO
 refine ab0 58 hpO (by simp) ?_
 clear hpO
 simp +contextual (maxSteps := 2000000) (disch := omega) [-Int.not_lt, -Int.not_le, -Nat.not_lt, -Nat.not_le, sx]
 refine aa0 [.e 0, .l 58 0] rfl rfl (by simp) ?_
 simp
 have hpO := ha (bs ++ [[115, 101, 116, 32], sB name].flatten ++ [[32, 61, 32]].flatten) (by simp only [List.flatten_cons, List.flatten_nil, List.append_nil, List.length_append, List.length_cons, List.length_nil]; omega)
 try simp [ae0, ad0] at hpO
 refine ab0 91 hpO (by simp) ?_
 clear hpO
 simp +contextual (maxSteps := 2000000) (disch := omega) [-Int.not_lt, -Int.not_le, -Nat.not_lt, -Nat.not_le, sx]
 refine aa0 [.e 0, .l 91 0] rfl rfl (by simp) ?_
 simp
 have hpO := ao0 (bs ++ [[115, 101, 116, 32], sB name].flatten ++ [[32, 61, 32]].flatten ++ a) [[59]] (by simp only [List.flatten_cons, List.flatten_nil, List.append_nil, List.length_append, List.length_cons, List.length_nil]; omega) (by simp)
 try simp [ae0, ad0] at hpO
 refine ab0 96 hpO (by simp) ?_
 clear hpO
 simp +contextual (maxSteps := 2000000) (disch := omega) [-Int.not_lt, -Int.not_le, -Nat.not_lt, -Nat.not_le, sx]
 refine endN _ _ (Wk.refl _ _) [.l 96 0] (by simp) ?_
 simp +contextual (maxSteps := 2000000) (disch := omega) [-Int.not_lt, -Int.not_le, -Nat.not_lt, -Nat.not_le, sx, ad0, fC0, eC0, fz0, kwIf, cO0, fB0, kwTo, fD0]
set_option maxHeartbeats 3200000 in
theorem st_set2 (name : ByteArray) (slot : Int) (state : Bool) (num : Int) (body els : List Stm) (at_ : Int) (n : Nat) (x y : Exq) (a c : Bs) (h : fR0 (sB name) = true) (ha : cZ0 x a) (hc : cZ0 y c) : kW0 n (.mk 2 name slot state num [x, y] body els at_) (eC0 ++ [32] ++ sB name ++ [91] ++ a ++ [93] ++ [32, 61, 32] ++ c ++ [59]) := by
 intro bs hl
 simp only [List.length_append, List.length_cons, List.length_nil, fC0, eC0, fz0, kwIf, cO0, fB0, kwTo, fD0] at hl
 have hN := gt0 h
 rw [ne0] at hN
 refine aq0 ax0 (by simp [ae0]) ?_
 rw [Stm.V, Stm.ac0]
 simp +contextual (maxSteps := 2000000) (disch := omega) [-Int.not_lt, -Int.not_le, -Nat.not_lt, -Nat.not_le, sx, as0, ae0, hpE, Stm.kind, Stm.name, Stm.slot, Stm.state, Stm.num, Stm.e, Stm.body, Stm.els, Stm.at_]
 refine aa0 [] rfl rfl (by simp) ?_
 simp
 have hpO := aj0
 try simp [ae0, ad0] at hpO
 refine ab0 22 hpO (by simp) ?_
 clear hpO
 simp +contextual (maxSteps := 2000000) (disch := omega) [-Int.not_lt, -Int.not_le, -Nat.not_lt, -Nat.not_le, sx]
 refine aa0 [] rfl rfl (by simp) ?_
 simp
 have hpO := hN
 try simp [ae0, ad0] at hpO
 refine ab0 39 hpO (by simp) ?_
 clear hpO
 simp +contextual (maxSteps := 2000000) (disch := omega) [-Int.not_lt, -Int.not_le, -Nat.not_lt, -Nat.not_le, sx]
 refine aa0 [.e 0, .e 1] rfl rfl (by simp) ?_
 simp
 have hpO := ao0 (bs) [[115, 101, 116, 32], sB name] (by simp only [List.flatten_cons, List.flatten_nil, List.append_nil, List.length_append, List.length_cons, List.length_nil]; omega) (by simp)
 try simp [ae0, ad0] at hpO
 refine ab0 41 hpO (by simp) ?_
 clear hpO
 simp +contextual (maxSteps := 2000000) (disch := omega) [-Int.not_lt, -Int.not_le, -Nat.not_lt, -Nat.not_le, sx]
 refine aa0 [.e 0, .l 41 0] rfl rfl (by simp) ?_
 simp
 have hpO := ao0 (bs ++ [[115, 101, 116, 32], sB name].flatten) [[91]] (by simp only [List.flatten_cons, List.flatten_nil, List.append_nil, List.length_append, List.length_cons, List.length_nil]; omega) (by simp)
 try simp [ae0, ad0] at hpO
 refine ab0 46 hpO (by simp) ?_
 clear hpO
 simp +contextual (maxSteps := 2000000) (disch := omega) [-Int.not_lt, -Int.not_le, -Nat.not_lt, -Nat.not_le, sx]
 refine aa0 [.e 0, .l 46 0] rfl rfl (by simp) ?_
 simp
 have hpO := ha (bs ++ [[115, 101, 116, 32], sB name].flatten ++ [[91]].flatten) (by simp only [List.flatten_cons, List.flatten_nil, List.append_nil, List.length_append, List.length_cons, List.length_nil]; omega)
 try simp [ae0, ad0] at hpO
 refine ab0 52 hpO (by simp) ?_
 clear hpO
 simp +contextual (maxSteps := 2000000) (disch := omega) [-Int.not_lt, -Int.not_le, -Nat.not_lt, -Nat.not_le, sx]
 refine aa0 [.e 0, .l 52 0] rfl rfl (by simp) ?_
 simp
 have hpO := ao0 (bs ++ [[115, 101, 116, 32], sB name].flatten ++ [[91]].flatten ++ a) [[93]] (by simp only [List.flatten_cons, List.flatten_nil, List.append_nil, List.length_append, List.length_cons, List.length_nil]; omega) (by simp)
 try simp [ae0, ad0] at hpO
 refine ab0 55 hpO (by simp) ?_
 clear hpO
 simp +contextual (maxSteps := 2000000) (disch := omega) [-Int.not_lt, -Int.not_le, -Nat.not_lt, -Nat.not_le, sx]
 refine aa0 [.e 0, .l 55 0] rfl rfl (by simp) ?_
 simp
 have hpO := ao0 (bs ++ [[115, 101, 116, 32], sB name].flatten ++ [[91]].flatten ++ a ++ [[93]].flatten) [[32, 61, 32]] (by simp only [List.flatten_cons, List.flatten_nil, List.append_nil, List.length_append, List.length_cons, List.length_nil]; omega) (by simp)
 try simp [ae0, ad0] at hpO
 refine ab0 58 hpO (by simp) ?_
 clear hpO
 simp +contextual (maxSteps := 2000000) (disch := omega) [-Int.not_lt, -Int.not_le, -Nat.not_lt, -Nat.not_le, sx]
 refine aa0 [.e 0, .l 58 0] rfl rfl (by simp) ?_
 simp
 have hpO := hc (bs ++ [[115, 101, 116, 32], sB name].flatten ++ [[91]].flatten ++ a ++ [[93]].flatten ++ [[32, 61, 32]].flatten) (by simp only [List.flatten_cons, List.flatten_nil, List.append_nil, List.length_append, List.length_cons, List.length_nil]; omega)
 try simp [ae0, ad0] at hpO
 refine ab0 91 hpO (by simp) ?_
 clear hpO
 simp +contextual (maxSteps := 2000000) (disch := omega) [-Int.not_lt, -Int.not_le, -Nat.not_lt, -Nat.not_le, sx]
 refine aa0 [.e 0, .l 91 0] rfl rfl (by simp) ?_
 simp
 have hpO := ao0 (bs ++ [[115, 101, 116, 32], sB name].flatten ++ [[91]].flatten ++ a ++ [[93]].flatten ++ [[32, 61, 32]].flatten ++ c) [[59]] (by simp only [List.flatten_cons, List.flatten_nil, List.append_nil, List.length_append, List.length_cons, List.length_nil]; omega) (by simp)
 try simp [ae0, ad0] at hpO
 refine ab0 96 hpO (by simp) ?_
 clear hpO
 simp +contextual (maxSteps := 2000000) (disch := omega) [-Int.not_lt, -Int.not_le, -Nat.not_lt, -Nat.not_le, sx]
 refine endN _ _ (Wk.refl _ _) [.l 96 0] (by simp) ?_
 simp +contextual (maxSteps := 2000000) (disch := omega) [-Int.not_lt, -Int.not_le, -Nat.not_lt, -Nat.not_le, sx, ad0, fC0, eC0, fz0, kwIf, cO0, fB0, kwTo, fD0]
set_option maxHeartbeats 3200000 in
theorem st_del (name : ByteArray) (slot : Int) (state : Bool) (num : Int) (body els : List Stm) (at_ : Int) (n : Nat) (x : Exq) (a : Bs) (h : fR0 (sB name) = true) (ha : cZ0 x a) : kW0 n (.mk 3 name slot state num [x] body els at_) (fz0 ++ [32] ++ sB name ++ [91] ++ a ++ [93, 59]) := by
 intro bs hl
 simp only [List.length_append, List.length_cons, List.length_nil, fC0, eC0, fz0, kwIf, cO0, fB0, kwTo, fD0] at hl
 have hN := gt0 h
 rw [ne0] at hN
 refine aq0 ax0 (by simp [ae0]) ?_
 rw [Stm.V, Stm.ac0]
 simp +contextual (maxSteps := 2000000) (disch := omega) [-Int.not_lt, -Int.not_le, -Nat.not_lt, -Nat.not_le, sx, as0, ae0, hpE, Stm.kind, Stm.name, Stm.slot, Stm.state, Stm.num, Stm.e, Stm.body, Stm.els, Stm.at_]
 refine aa0 [] rfl rfl (by simp) ?_
 simp
 have hpO := aj0
 try simp [ae0, ad0] at hpO
 refine ab0 22 hpO (by simp) ?_
 clear hpO
 simp +contextual (maxSteps := 2000000) (disch := omega) [-Int.not_lt, -Int.not_le, -Nat.not_lt, -Nat.not_le, sx]
 refine aa0 [] rfl rfl (by simp) ?_
 simp
 have hpO := hN
 try simp [ae0, ad0] at hpO
 refine ab0 64 hpO (by simp) ?_
 clear hpO
 simp +contextual (maxSteps := 2000000) (disch := omega) [-Int.not_lt, -Int.not_le, -Nat.not_lt, -Nat.not_le, sx]
 refine aa0 [.e 0, .e 1] rfl rfl (by simp) ?_
 simp
 have hpO := ao0 (bs) [[100, 101, 108, 32], sB name, [91]] (by simp only [List.flatten_cons, List.flatten_nil, List.append_nil, List.length_append, List.length_cons, List.length_nil]; omega) (by simp)
 try simp [ae0, ad0] at hpO
 refine ab0 66 hpO (by simp) ?_
 clear hpO
 simp +contextual (maxSteps := 2000000) (disch := omega) [-Int.not_lt, -Int.not_le, -Nat.not_lt, -Nat.not_le, sx]
 refine aa0 [.e 0, .l 66 0] rfl rfl (by simp) ?_
 simp
 have hpO := ha (bs ++ [[100, 101, 108, 32], sB name, [91]].flatten) (by simp only [List.flatten_cons, List.flatten_nil, List.append_nil, List.length_append, List.length_cons, List.length_nil]; omega)
 try simp [ae0, ad0] at hpO
 refine ab0 91 hpO (by simp) ?_
 clear hpO
 simp +contextual (maxSteps := 2000000) (disch := omega) [-Int.not_lt, -Int.not_le, -Nat.not_lt, -Nat.not_le, sx]
 refine aa0 [.e 0, .l 91 0] rfl rfl (by simp) ?_
 simp
 have hpO := ao0 (bs ++ [[100, 101, 108, 32], sB name, [91]].flatten ++ a) [[93, 59]] (by simp only [List.flatten_cons, List.flatten_nil, List.append_nil, List.length_append, List.length_cons, List.length_nil]; omega) (by simp)
 try simp [ae0, ad0] at hpO
 refine ab0 101 hpO (by simp) ?_
 clear hpO
 simp +contextual (maxSteps := 2000000) (disch := omega) [-Int.not_lt, -Int.not_le, -Nat.not_lt, -Nat.not_le, sx]
 refine endN _ _ (Wk.refl _ _) [.l 101 0] (by simp) ?_
 simp +contextual (maxSteps := 2000000) (disch := omega) [-Int.not_lt, -Int.not_le, -Nat.not_lt, -Nat.not_le, sx, ad0, fC0, eC0, fz0, kwIf, cO0, fB0, kwTo, fD0]
set_option maxHeartbeats 3200000 in
theorem st_if0 (name : ByteArray) (slot : Int) (state : Bool) (num : Int) (body : List Stm) (at_ : Int) (n : Nat) (x : Exq) (a b : Bs) (ha : cZ0 x a) (hb : lH0 n body b) : kW0 n (.mk 4 name slot state num [x] body [] at_) (kwIf ++ [32] ++ a ++ [32] ++ b) := by
 intro bs hl
 simp only [List.length_append, List.length_cons, List.length_nil, fC0, eC0, fz0, kwIf, cO0, fB0, kwTo, fD0] at hl
 refine aq0 ax0 (by simp [ae0]) ?_
 rw [Stm.V, Stm.ac0]
 simp +contextual (maxSteps := 2000000) (disch := omega) [-Int.not_lt, -Int.not_le, -Nat.not_lt, -Nat.not_le, sx, as0, ae0, hpE, Stm.kind, Stm.name, Stm.slot, Stm.state, Stm.num, Stm.e, Stm.body, Stm.els, Stm.at_]
 refine aa0 [] rfl rfl (by simp) ?_
 simp
 have hpO := aj0
 try simp [ae0, ad0] at hpO
 refine ab0 22 hpO (by simp) ?_
 clear hpO
 simp +contextual (maxSteps := 2000000) (disch := omega) [-Int.not_lt, -Int.not_le, -Nat.not_lt, -Nat.not_le, sx]
 refine aa0 [.e 0, .e 1] rfl rfl (by simp) ?_
 simp
 have hpO := ao0 (bs) [[105, 102, 32]] (by simp only [List.flatten_cons, List.flatten_nil, List.append_nil, List.length_append, List.length_cons, List.length_nil]; omega) (by simp)
 try simp [ae0, ad0] at hpO
 refine ab0 71 hpO (by simp) ?_
 clear hpO
 simp +contextual (maxSteps := 2000000) (disch := omega) [-Int.not_lt, -Int.not_le, -Nat.not_lt, -Nat.not_le, sx]
 refine aa0 [.e 0, .l 71 0] rfl rfl (by simp) ?_
 simp
 have hpO := ha (bs ++ [[105, 102, 32]].flatten) (by simp only [List.flatten_cons, List.flatten_nil, List.append_nil, List.length_append, List.length_cons, List.length_nil]; omega)
 try simp [ae0, ad0] at hpO
 refine ab0 91 hpO (by simp) ?_
 clear hpO
 simp +contextual (maxSteps := 2000000) (disch := omega) [-Int.not_lt, -Int.not_le, -Nat.not_lt, -Nat.not_le, sx]
 refine aa0 [.e 0, .l 91 0] rfl rfl (by simp) ?_
 simp
 have hpO := ao0 (bs ++ [[105, 102, 32]].flatten ++ a) [[32]] (by simp only [List.flatten_cons, List.flatten_nil, List.append_nil, List.length_append, List.length_cons, List.length_nil]; omega) (by simp)
 try simp [ae0, ad0] at hpO
 refine ab0 107 hpO (by simp) ?_
 clear hpO
 simp +contextual (maxSteps := 2000000) (disch := omega) [-Int.not_lt, -Int.not_le, -Nat.not_lt, -Nat.not_le, sx]
 refine aa0 [.e 0, .l 107 0] rfl rfl (by simp) ?_
 simp
 have hpO := hb (bs ++ [[105, 102, 32]].flatten ++ a ++ [[32]].flatten) (by simp only [List.flatten_cons, List.flatten_nil, List.append_nil, List.length_append, List.length_cons, List.length_nil]; omega)
 try simp [ae0, ad0] at hpO
 refine ab0 112 hpO (by simp) ?_
 clear hpO
 simp +contextual (maxSteps := 2000000) (disch := omega) [-Int.not_lt, -Int.not_le, -Nat.not_lt, -Nat.not_le, sx]
 refine endN _ _ (Wk.refl _ _) [.l 112 0] (by simp) ?_
 simp +contextual (maxSteps := 2000000) (disch := omega) [-Int.not_lt, -Int.not_le, -Nat.not_lt, -Nat.not_le, sx, ad0, fC0, eC0, fz0, kwIf, cO0, fB0, kwTo, fD0]
set_option maxHeartbeats 3200000 in
theorem st_if1 (name : ByteArray) (slot : Int) (state : Bool) (num : Int) (body els : List Stm) (at_ : Int) (n : Nat) (x : Exq) (a b c : Bs) (hne : els ≠ []) (ha : cZ0 x a) (hb : lH0 n body b) (hc : lH0 n els c) : kW0 n (.mk 4 name slot state num [x] body els at_) (kwIf ++ [32] ++ a ++ [32] ++ b ++ ([32] ++ cO0 ++ [32] ++ c)) := by
 intro bs hl
 have hpos : (0 : Int) < els.length := by have := List.length_pos_iff.2 hne; omega
 simp only [List.length_append, List.length_cons, List.length_nil, fC0, eC0, fz0, kwIf, cO0, fB0, kwTo, fD0] at hl
 refine aq0 ax0 (by simp [ae0]) ?_
 rw [Stm.V, Stm.ac0]
 simp +contextual (maxSteps := 2000000) (disch := omega) [-Int.not_lt, -Int.not_le, -Nat.not_lt, -Nat.not_le, sx, as0, ae0, hpE, Stm.kind, Stm.name, Stm.slot, Stm.state, Stm.num, Stm.e, Stm.body, Stm.els, Stm.at_]
 refine aa0 [] rfl rfl (by simp) ?_
 simp
 have hpO := aj0
 try simp [ae0, ad0] at hpO
 refine ab0 22 hpO (by simp) ?_
 clear hpO
 simp +contextual (maxSteps := 2000000) (disch := omega) [-Int.not_lt, -Int.not_le, -Nat.not_lt, -Nat.not_le, sx]
 refine aa0 [.e 0, .e 1] rfl rfl (by simp) ?_
 simp
 have hpO := ao0 (bs) [[105, 102, 32]] (by simp only [List.flatten_cons, List.flatten_nil, List.append_nil, List.length_append, List.length_cons, List.length_nil]; omega) (by simp)
 try simp [ae0, ad0] at hpO
 refine ab0 71 hpO (by simp) ?_
 clear hpO
 simp +contextual (maxSteps := 2000000) (disch := omega) [-Int.not_lt, -Int.not_le, -Nat.not_lt, -Nat.not_le, sx]
 refine aa0 [.e 0, .l 71 0] rfl rfl (by simp) ?_
 simp
 have hpO := ha (bs ++ [[105, 102, 32]].flatten) (by simp only [List.flatten_cons, List.flatten_nil, List.append_nil, List.length_append, List.length_cons, List.length_nil]; omega)
 try simp [ae0, ad0] at hpO
 refine ab0 91 hpO (by simp) ?_
 clear hpO
 simp +contextual (maxSteps := 2000000) (disch := omega) [-Int.not_lt, -Int.not_le, -Nat.not_lt, -Nat.not_le, sx]
 refine aa0 [.e 0, .l 91 0] rfl rfl (by simp) ?_
 simp
 have hpO := ao0 (bs ++ [[105, 102, 32]].flatten ++ a) [[32]] (by simp only [List.flatten_cons, List.flatten_nil, List.append_nil, List.length_append, List.length_cons, List.length_nil]; omega) (by simp)
 try simp [ae0, ad0] at hpO
 refine ab0 107 hpO (by simp) ?_
 clear hpO
 simp +contextual (maxSteps := 2000000) (disch := omega) [-Int.not_lt, -Int.not_le, -Nat.not_lt, -Nat.not_le, sx]
 refine aa0 [.e 0, .l 107 0] rfl rfl (by simp) ?_
 simp
 have hpO := hb (bs ++ [[105, 102, 32]].flatten ++ a ++ [[32]].flatten) (by simp only [List.flatten_cons, List.flatten_nil, List.append_nil, List.length_append, List.length_cons, List.length_nil]; omega)
 try simp [ae0, ad0] at hpO
 refine ab0 112 hpO (by simp) ?_
 clear hpO
 simp +contextual (maxSteps := 2000000) (disch := omega) [-Int.not_lt, -Int.not_le, -Nat.not_lt, -Nat.not_le, sx, hpos]
 refine aa0 [.e 0, .l 112 0] rfl rfl (by simp) ?_
 simp
 have hpO := ao0 (bs ++ [[105, 102, 32]].flatten ++ a ++ [[32]].flatten ++ b) [[32, 101, 108, 115, 101, 32]] (by simp only [List.flatten_cons, List.flatten_nil, List.append_nil, List.length_append, List.length_cons, List.length_nil]; omega) (by simp)
 try simp [ae0, ad0] at hpO
 refine ab0 124 hpO (by simp) ?_
 clear hpO
 simp +contextual (maxSteps := 2000000) (disch := omega) [-Int.not_lt, -Int.not_le, -Nat.not_lt, -Nat.not_le, sx]
 refine aa0 [.e 0, .l 124 0] rfl rfl (by simp) ?_
 simp
 have hpO := hc (bs ++ [[105, 102, 32]].flatten ++ a ++ [[32]].flatten ++ b ++ [[32, 101, 108, 115, 101, 32]].flatten) (by simp only [List.flatten_cons, List.flatten_nil, List.append_nil, List.length_append, List.length_cons, List.length_nil]; omega)
 try simp [ae0, ad0] at hpO
 refine ab0 129 hpO (by simp) ?_
 clear hpO
 simp +contextual (maxSteps := 2000000) (disch := omega) [-Int.not_lt, -Int.not_le, -Nat.not_lt, -Nat.not_le, sx]
 refine endN _ _ (Wk.refl _ _) [.l 129 0] (by simp) ?_
 simp +contextual (maxSteps := 2000000) (disch := omega) [-Int.not_lt, -Int.not_le, -Nat.not_lt, -Nat.not_le, sx, ad0, fC0, eC0, fz0, kwIf, cO0, fB0, kwTo, fD0]
set_option maxHeartbeats 3200000 in
theorem st_for (name : ByteArray) (slot : Int) (state : Bool) (num : Int) (body els : List Stm) (at_ : Int) (n : Nat) (x : Exq) (a b : Bs) (h : fR0 (sB name) = true) (ha : cZ0 x a) (hb : lH0 n body b) : kW0 n (.mk 5 name slot state num [x] body els at_) (fB0 ++ [32] ++ sB name ++ [32] ++ kwTo ++ [32] ++ a ++ [32] ++ b) := by
 intro bs hl
 simp only [List.length_append, List.length_cons, List.length_nil, fC0, eC0, fz0, kwIf, cO0, fB0, kwTo, fD0] at hl
 have hN := gt0 h
 rw [ne0] at hN
 refine aq0 ax0 (by simp [ae0]) ?_
 rw [Stm.V, Stm.ac0]
 simp +contextual (maxSteps := 2000000) (disch := omega) [-Int.not_lt, -Int.not_le, -Nat.not_lt, -Nat.not_le, sx, as0, ae0, hpE, Stm.kind, Stm.name, Stm.slot, Stm.state, Stm.num, Stm.e, Stm.body, Stm.els, Stm.at_]
 refine aa0 [] rfl rfl (by simp) ?_
 simp
 have hpO := aj0
 try simp [ae0, ad0] at hpO
 refine ab0 22 hpO (by simp) ?_
 clear hpO
 simp +contextual (maxSteps := 2000000) (disch := omega) [-Int.not_lt, -Int.not_le, -Nat.not_lt, -Nat.not_le, sx]
 refine aa0 [] rfl rfl (by simp) ?_
 simp
 have hpO := hN
 try simp [ae0, ad0] at hpO
 refine ab0 77 hpO (by simp) ?_
 clear hpO
 simp +contextual (maxSteps := 2000000) (disch := omega) [-Int.not_lt, -Int.not_le, -Nat.not_lt, -Nat.not_le, sx]
 refine aa0 [.e 0, .e 1] rfl rfl (by simp) ?_
 simp
 have hpO := ao0 (bs) [[102, 111, 114, 32], sB name, [32, 116, 111, 32]] (by simp only [List.flatten_cons, List.flatten_nil, List.append_nil, List.length_append, List.length_cons, List.length_nil]; omega) (by simp)
 try simp [ae0, ad0] at hpO
 refine ab0 79 hpO (by simp) ?_
 clear hpO
 simp +contextual (maxSteps := 2000000) (disch := omega) [-Int.not_lt, -Int.not_le, -Nat.not_lt, -Nat.not_le, sx]
 refine aa0 [.e 0, .l 79 0] rfl rfl (by simp) ?_
 simp
 have hpO := ha (bs ++ [[102, 111, 114, 32], sB name, [32, 116, 111, 32]].flatten) (by simp only [List.flatten_cons, List.flatten_nil, List.append_nil, List.length_append, List.length_cons, List.length_nil]; omega)
 try simp [ae0, ad0] at hpO
 refine ab0 91 hpO (by simp) ?_
 clear hpO
 simp +contextual (maxSteps := 2000000) (disch := omega) [-Int.not_lt, -Int.not_le, -Nat.not_lt, -Nat.not_le, sx]
 refine aa0 [.e 0, .l 91 0] rfl rfl (by simp) ?_
 simp
 have hpO := ao0 (bs ++ [[102, 111, 114, 32], sB name, [32, 116, 111, 32]].flatten ++ a) [[32]] (by simp only [List.flatten_cons, List.flatten_nil, List.append_nil, List.length_append, List.length_cons, List.length_nil]; omega) (by simp)
 try simp [ae0, ad0] at hpO
 refine ab0 107 hpO (by simp) ?_
 clear hpO
 simp +contextual (maxSteps := 2000000) (disch := omega) [-Int.not_lt, -Int.not_le, -Nat.not_lt, -Nat.not_le, sx]
 refine aa0 [.e 0, .l 107 0] rfl rfl (by simp) ?_
 simp
 have hpO := hb (bs ++ [[102, 111, 114, 32], sB name, [32, 116, 111, 32]].flatten ++ a ++ [[32]].flatten) (by simp only [List.flatten_cons, List.flatten_nil, List.append_nil, List.length_append, List.length_cons, List.length_nil]; omega)
 try simp [ae0, ad0] at hpO
 refine ab0 112 hpO (by simp) ?_
 clear hpO
 simp +contextual (maxSteps := 2000000) (disch := omega) [-Int.not_lt, -Int.not_le, -Nat.not_lt, -Nat.not_le, sx]
 refine endN _ _ (Wk.refl _ _) [.l 112 0] (by simp) ?_
 simp +contextual (maxSteps := 2000000) (disch := omega) [-Int.not_lt, -Int.not_le, -Nat.not_lt, -Nat.not_le, sx, ad0, fC0, eC0, fz0, kwIf, cO0, fB0, kwTo, fD0]
set_option maxHeartbeats 3200000 in
theorem st_ret (name : ByteArray) (slot : Int) (state : Bool) (num : Int) (body els : List Stm) (at_ : Int) (n : Nat) (x : Exq) (a : Bs) (ha : cZ0 x a) : kW0 n (.mk 6 name slot state num [x] body els at_) (fD0 ++ [32] ++ a ++ [59]) := by
 intro bs hl
 simp only [List.length_append, List.length_cons, List.length_nil, fC0, eC0, fz0, kwIf, cO0, fB0, kwTo, fD0] at hl
 refine aq0 ax0 (by simp [ae0]) ?_
 rw [Stm.V, Stm.ac0]
 simp +contextual (maxSteps := 2000000) (disch := omega) [-Int.not_lt, -Int.not_le, -Nat.not_lt, -Nat.not_le, sx, as0, ae0, hpE, Stm.kind, Stm.name, Stm.slot, Stm.state, Stm.num, Stm.e, Stm.body, Stm.els, Stm.at_]
 refine aa0 [] rfl rfl (by simp) ?_
 simp
 have hpO := aj0
 try simp [ae0, ad0] at hpO
 refine ab0 22 hpO (by simp) ?_
 clear hpO
 simp +contextual (maxSteps := 2000000) (disch := omega) [-Int.not_lt, -Int.not_le, -Nat.not_lt, -Nat.not_le, sx]
 refine aa0 [.e 0, .e 1] rfl rfl (by simp) ?_
 simp
 have hpO := ao0 (bs) [[114, 101, 116, 32]] (by simp only [List.flatten_cons, List.flatten_nil, List.append_nil, List.length_append, List.length_cons, List.length_nil]; omega) (by simp)
 try simp [ae0, ad0] at hpO
 refine ab0 84 hpO (by simp) ?_
 clear hpO
 simp +contextual (maxSteps := 2000000) (disch := omega) [-Int.not_lt, -Int.not_le, -Nat.not_lt, -Nat.not_le, sx]
 refine aa0 [.e 0, .l 84 0] rfl rfl (by simp) ?_
 simp
 have hpO := ha (bs ++ [[114, 101, 116, 32]].flatten) (by simp only [List.flatten_cons, List.flatten_nil, List.append_nil, List.length_append, List.length_cons, List.length_nil]; omega)
 try simp [ae0, ad0] at hpO
 refine ab0 91 hpO (by simp) ?_
 clear hpO
 simp +contextual (maxSteps := 2000000) (disch := omega) [-Int.not_lt, -Int.not_le, -Nat.not_lt, -Nat.not_le, sx]
 refine aa0 [.e 0, .l 91 0] rfl rfl (by simp) ?_
 simp
 have hpO := ao0 (bs ++ [[114, 101, 116, 32]].flatten ++ a) [[59]] (by simp only [List.flatten_cons, List.flatten_nil, List.append_nil, List.length_append, List.length_cons, List.length_nil]; omega) (by simp)
 try simp [ae0, ad0] at hpO
 refine ab0 96 hpO (by simp) ?_
 clear hpO
 simp +contextual (maxSteps := 2000000) (disch := omega) [-Int.not_lt, -Int.not_le, -Nat.not_lt, -Nat.not_le, sx]
 refine endN _ _ (Wk.refl _ _) [.l 96 0] (by simp) ?_
 simp +contextual (maxSteps := 2000000) (disch := omega) [-Int.not_lt, -Int.not_le, -Nat.not_lt, -Nat.not_le, sx, ad0, fC0, eC0, fz0, kwIf, cO0, fB0, kwTo, fD0]
theorem lz0 (n : Nat) : tabs n ++ [9] = tabs (n + 1) := by unfold tabs; rw [List.replicate_succ']
theorem cn0 (n : Nat) : (tabs n).length = n := by simp [tabs]
theorem n80 (n : Nat) : lH0 n [] [123, 125] := by
 intro bs hl
 refine aq0 eo0 (by simp [ae0]) ?_
 simp +contextual (maxSteps := 2000000) (disch := omega) [-Int.not_lt, -Int.not_le, -Nat.not_lt, -Nat.not_le, sx, cJ0, ae0, hpE]
 refine aa0 [.e 0, .e 1] rfl rfl (by simp) ?_
 simp
 have hpO := ao0 bs [[123, 125]] (by simpa using hl) (by simp)
 try simp [ae0, ad0, cn0, Stm.V] at hpO
 refine ab0 13 hpO (by simp) ?_
 clear hpO
 simp +contextual (maxSteps := 2000000) (disch := omega) [-Int.not_lt, -Int.not_le, -Nat.not_lt, -Nat.not_le, sx]
 refine endR _ _ (Wk.refl _ _) [.l 13 0] (by simp) ?_
 simp +contextual (maxSteps := 2000000) (disch := omega) [-Int.not_lt, -Int.not_le, -Nat.not_lt, -Nat.not_le, sx, ad0]
set_option maxHeartbeats 1600000 in
theorem pe0 (n : Nat) (l : List Stm) (ts : List Bs) (hne : l ≠ []) (hlen : ts.length = l.length) (hx : l.length < 2 ^ 30) (h : ∀ i (hi : i < l.length), kW0 (n + 1) l[i] (ts[i]'(by omega))) :
  lH0 n l ([123, 10] ++ (ts.map fun a => tabs (n + 1) ++ a ++ [10]).flatten ++ tabs n ++ [125]) := by
 intro bs hl
 generalize hM : (ts.map fun a => tabs (n + 1) ++ a ++ [10]) = M at *
 have hMl : M.length = l.length := by rw [<- hM]; simp [hlen]
 have hMg : ∀ i (hi : i < l.length), M[i]'(by omega) = tabs (n + 1) ++ ts[i]'(by omega) ++ [10] := fun i hi => by simp [<- hM]
 rw [<- bM0, hMl] at hl ⊢
 have hpos : ¬ (l.length : Int) = 0 := by have := List.length_pos_iff.2 hne; omega
 simp only [List.length_append, List.length_cons, List.length_nil, cn0] at hl
 have htl := cn0 n
 refine aq0 eo0 (by simp [ae0]) ?_
 simp +contextual (maxSteps := 2000000) (disch := omega) [-Int.not_lt, -Int.not_le, -Nat.not_lt, -Nat.not_le, sx, cJ0, ae0, hpE, hpos, hne]
 refine aa0 [.e 0, .e 1] rfl rfl (by simp) ?_
 simp
 have hpO := ao0 bs [[123, 10]] (by simp; omega) (by simp)
 try simp [ae0, ad0, cn0, Stm.V] at hpO
 refine ab0 16 hpO (by simp) ?_
 clear hpO
 simp +contextual (maxSteps := 2000000) (disch := omega) [-Int.not_lt, -Int.not_le, -Nat.not_lt, -Nat.not_le, sx]
 refine ca0 l.length (fun i => [(19, vI i), (18, vI l.length), (17, .lst (l.map Stm.cells)), (0, .bp (.e 0) 0), (2, vS (bS (tabs n)))])
  (fun i => [(.e 0, .box [.self (.e 0) 69, .arr (.l 999 0) 0 (bs ++ [123, 10] ++ aO0 M i).length]), (.l 999 0, .row 5 1 true ((bs ++ [123, 10] ++ aO0 M i).map aR0))])
  (Wk.rens (.l 16 0) (.l 999 0) rfl (by simp) (by simp [renF, a30]) (by simp [renF, bC0, a30])) ?_
 intro i hi
 by_cases hlt : i < l.length
 ·have hlt' : (i : Int) < l.length := by omega
  have hle := g00 M (i + 1)
  rw [<- bM0, hMl] at hle
  have hsucc := dZ0 (L := M) (i := i) (by omega)
  rw [hMg i hlt] at hsucc
  have hle2 := hle
  rw [hsucc] at hle2
  simp only [List.length_append, List.length_cons, List.length_nil, cn0] at hle2
  have hP := h i hlt
  have hts : (bS (tabs n)) ++ ⟨⟨[9]⟩⟩ = bS (tabs (n + 1)) := by rw [<- lz0]; exact bI0 _ _
  simp +contextual (maxSteps := 2000000) (disch := omega) [-Int.not_lt, -Int.not_le, -Nat.not_lt, -Nat.not_le, sx, hlt', hts, gj0, htl]
  refine aa0 [.e 0, .l 999 0] rfl rfl (by simp) ?_
  simp
  have hpO := ao0 (bs ++ [123, 10] ++ aO0 M i) [tabs n, [9]] (by simp only [List.flatten_cons, List.flatten_nil, List.append_nil, List.length_append, List.length_cons, List.length_nil, cn0]; omega) (by simp)
  try simp [ae0, ad0, cn0, Stm.V] at hpO
  refine ab0 26 hpO (by simp) ?_
  clear hpO
  simp +contextual (maxSteps := 2000000) (disch := omega) [-Int.not_lt, -Int.not_le, -Nat.not_lt, -Nat.not_le, sx, hts, gj0, htl]
  refine aa0 [.e 0, .l 26 0] rfl rfl (by simp) ?_
  simp
  have hpO := hP (bs ++ [123, 10] ++ aO0 M i ++ [tabs n, [9]].flatten) (by simp only [List.flatten_cons, List.flatten_nil, List.append_nil, List.length_append, List.length_cons, List.length_nil, cn0]; omega)
  try simp [ae0, ad0, cn0, Stm.V] at hpO
  refine ab0 31 hpO (by simp) ?_
  clear hpO
  simp +contextual (maxSteps := 2000000) (disch := omega) [-Int.not_lt, -Int.not_le, -Nat.not_lt, -Nat.not_le, sx]
  refine aa0 [.e 0, .l 31 0] rfl rfl (by simp) ?_
  simp
  have hpO := ao0 (bs ++ [123, 10] ++ aO0 M i ++ [tabs n, [9]].flatten ++ ts[i]'(by omega)) [[10]] (by simp only [List.flatten_cons, List.flatten_nil, List.append_nil, List.length_append, List.length_cons, List.length_nil, cn0]; omega) (by simp)
  try simp [ae0, ad0, cn0, Stm.V] at hpO
  refine ab0 34 hpO (by simp) ?_
  clear hpO
  simp +contextual (maxSteps := 2000000) (disch := omega) [-Int.not_lt, -Int.not_le, -Nat.not_lt, -Nat.not_le, sx]
  have htt : ∀ z : Bs, tabs n ++ 9 :: z = tabs (n + 1) ++ z := fun z => by rw [<- lz0]; simp
  have hflat : bs ++ [123, 10] ++ aO0 M i ++ [tabs n, [9]].flatten ++ (ts[i]'(by omega)) ++ [10] = bs ++ [123, 10] ++ aO0 M (i + 1) := by
   rw [hsucc, <- lz0]; simp
  have e1 := congrArg List.length hflat
  have e2 := congrArg (List.map aR0) hflat
  simp [cn0] at e1 e2
  refine .of hlt (Wk.rens (.l 34 0) (.l 999 0) rfl (by simp) (by simp [renF]) (by simp [renF, bC0, e1, e2]))
 ·have hge' : ¬ (i : Int) < l.length := by omega
  have : i = l.length := by omega
  subst this
  simp +contextual (maxSteps := 2000000) (disch := omega) [-Int.not_lt, -Int.not_le, -Nat.not_lt, -Nat.not_le, sx, hge']
  refine aa0 [.e 0, .l 999 0] rfl rfl (by simp) ?_
  simp
  have hpO := ao0 (bs ++ [123, 10] ++ aO0 M l.length) [tabs n, [125]] (by simp only [List.flatten_cons, List.flatten_nil, List.append_nil, List.length_append, List.length_cons, List.length_nil, cn0]; omega) (by simp)
  try simp [ae0, ad0, cn0, Stm.V] at hpO
  refine ab0 39 hpO (by simp) ?_
  clear hpO
  simp +contextual (maxSteps := 2000000) (disch := omega) [-Int.not_lt, -Int.not_le, -Nat.not_lt, -Nat.not_le, sx]
  refine endN _ _ (Wk.refl _ _) [.l 39 0] (by simp) ?_
  simp +contextual (maxSteps := 2000000) (disch := omega) [-Int.not_lt, -Int.not_le, -Nat.not_lt, -Nat.not_le, sx, ad0, cn0]
theorem o10 : ∀ {n : Nat} {l : List Stm} {t : Bs}, shT n l = some t -> ∃ ts : List Bs, ts.length = l.length /\ (∀ i (hi : i < l.length) (hi2 : i < ts.length), shS (n + 1) l[i] = some ts[i]) /\ t = (ts.map fun a => tabs (n + 1) ++ a ++ [10]).flatten
 | n, [], t, h => by rw [shT.eq_def] at h; simp at h; subst h; exact ⟨[], rfl, fun i hi => by simp at hi, rfl⟩
 | n, x :: l, t, h => by
  rw [shT.eq_def] at h
  dsimp only at h
  split at h
  ·rename_i a b h1 h2
   injection h with h; subst h
   obtain ⟨ts, g1, g2, g3⟩ := o10 h2
   refine ⟨a :: ts, by simp [g1], fun i hi hi2 => ?_, by simp [g3]⟩
   cases i with
   | zero => exact h1
   | succ i => exact g2 i (by simpa using hi) (by simpa using hi2)
  ·cases h
theorem mP0 : ∀ {l : List Stm}, plB l = true -> ∀ x ∈ l, plS x = true
 | [], _, x, hx => by simp at hx
 | y :: l, h, x, hx => by
  rw [plB, Bool.and_eq_true] at h
  rcases List.mem_cons.1 hx with rfl | hx
  ·exact h.1
  ·exact mP0 h.2 x hx
theorem mS0 {n : Nat} {l : List Stm} {t : Bs} (hx : l.length < 2 ^ 30) (h : shB n l = some t) (hp : ∀ x ∈ l, ∀ {t : Bs}, shS (n + 1) x = some t -> kW0 (n + 1) x t) : lH0 n l t := by
 cases l with
 | nil => rw [shB.eq_def] at h; simp at h; subst h; exact n80 n
 | cons x l =>
  rw [shB_cons] at h
  cases hT : shT n (x :: l) with
  | none => rw [hT] at h; cases h
  | some q =>
   rw [hT] at h
   simp only [Option.map_some, Option.some.injEq] at h
   subst h
   obtain ⟨ts, g1, g2, rfl⟩ := o10 hT
   exact pe0 n (x :: l) ts (by simp) g1 hx fun i hi => hp _ (List.getElem_mem hi) (g2 i hi (by omega))
theorem putsS : ∀ (m n : Nat) (x : Stm), SizeOf.sizeOf x < m -> plS x = true -> ∀ {t : Bs}, shS n x = some t -> kW0 n x t := by
 intro m
 induction m with
 | zero => intro n x h; omega
 | succ m ih =>
  intro n x hm hp t h
  obtain ⟨k, name, slot, state, num, e, body, els, at_⟩ := x
  rw [plS] at hp
  simp only [Bool.and_eq_true, decide_eq_true_eq] at hp
  obtain ⟨⟨⟨p1, p2, p3⟩, p4⟩, p5⟩ := hp
  have hpl := op0 p1
  have hsz1 : ∀ y ∈ body, SizeOf.sizeOf y < m := fun y hy => by
   have := List.sizeOf_lt_of_mem hy
   simp only [Stm.mk.sizeOf_spec] at hm; omega
  have hsz2 : ∀ y ∈ els, SizeOf.sizeOf y < m := fun y hy => by
   have := List.sizeOf_lt_of_mem hy
   simp only [Stm.mk.sizeOf_spec] at hm; omega
  have hE : ∀ {ts : List Bs}, shL e = some ts -> ∀ i (hi : i < e.length) (hi2 : i < ts.length), cZ0 e[i] ts[i] := fun hL i hi hi2 => putsE _ _ (Nat.lt_succ_self _) (hpl _ (List.getElem_mem hi)) ((kj0 hL).2 i hi hi2)
  have hB : ∀ {t : Bs}, shB n body = some t -> lH0 n body t := fun h => mS0 p2 h fun x hx t ht => ih (n + 1) x (hsz1 x hx) (mP0 p4 x hx) ht
  have hC : ∀ {t : Bs}, shB n els = some t -> lH0 n els t := fun h => mS0 p3 h fun x hx t ht => ih (n + 1) x (hsz2 x hx) (mP0 p5 x hx) ht
  have one : ∀ {a : Bs}, shL e = some [a] -> ∃ x, e = [x] /\ cZ0 x a := fun {a} hL => by
   obtain ⟨g1, _⟩ := kj0 hL
   have g := hE hL
   match e, g1, g with
   | [x], _, g => exact ⟨x, rfl, g 0 (by simp) (by simp)⟩
  have two : ∀ {a b : Bs}, shL e = some [a, b] -> ∃ x y, e = [x, y] /\ cZ0 x a /\ cZ0 y b := fun {a b} hL => by
   obtain ⟨g1, _⟩ := kj0 hL
   have g := hE hL
   match e, g1, g with
   | [x, y], _, g => exact ⟨x, y, rfl, g 0 (by simp) (by simp), g 1 (by simp) (by simp)⟩
  rw [shS.eq_def] at h
  dsimp only at h
  by_cases k1 : k = 1
  ·subst k1
   rw [if_pos rfl] at h
   split at h
   ·rename_i a hL
    obtain ⟨x, rfl, ha⟩ := one hL
    split at h
    ·rename_i hn; injection h with h; subst h
     exact st_let name slot state num body els at_ n x a hn ha
    ·cases h
   ·cases h
  rw [if_neg k1] at h
  by_cases k2 : k = 2
  ·subst k2
   rw [if_pos rfl] at h
   split at h
   ·rename_i a hL
    obtain ⟨x, rfl, ha⟩ := one hL
    split at h
    ·rename_i hn; injection h with h; subst h
     exact st_set1 name slot state num body els at_ n x a hn ha
    ·cases h
   ·rename_i a b hL
    obtain ⟨x, y, rfl, ha, hb⟩ := two hL
    split at h
    ·rename_i hn; injection h with h; subst h
     exact st_set2 name slot state num body els at_ n x y a b hn ha hb
    ·cases h
   ·cases h
  rw [if_neg k2] at h
  by_cases k3 : k = 3
  ·subst k3
   rw [if_pos rfl] at h
   split at h
   ·rename_i a hL
    obtain ⟨x, rfl, ha⟩ := one hL
    split at h
    ·rename_i hn; injection h with h; subst h
     exact st_del name slot state num body els at_ n x a hn ha
    ·cases h
   ·cases h
  rw [if_neg k3] at h
  by_cases k4 : k = 4
  ·subst k4
   rw [if_pos rfl] at h
   split at h
   ·rename_i a b c hL hb hc
    obtain ⟨x, rfl, ha⟩ := one hL
    injection h with h; subst h
    by_cases hne : els = []
    ·subst hne
     rw [if_pos rfl, List.append_nil]
     exact st_if0 name slot state num body at_ n x a b ha (hB hb)
    ·rw [if_neg hne]
     exact st_if1 name slot state num body els at_ n x a b c hne ha (hB hb) (hC hc)
   ·cases h
  rw [if_neg k4] at h
  by_cases k5 : k = 5
  ·subst k5
   rw [if_pos rfl] at h
   split at h
   ·rename_i a b hL hb
    obtain ⟨x, rfl, ha⟩ := one hL
    split at h
    ·rename_i hn; injection h with h; subst h
     exact st_for name slot state num body els at_ n x a b hn ha (hB hb)
    ·cases h
   ·cases h
  rw [if_neg k5] at h
  by_cases k6 : k = 6
  ·subst k6
   rw [if_pos rfl] at h
   split at h
   ·rename_i a hL
    obtain ⟨x, rfl, ha⟩ := one hL
    injection h with h; subst h
    exact st_ret name slot state num body els at_ n x a ha
   ·cases h
  ·rw [if_neg k6] at h; cases h
attribute [local irreducible] vcF dfrS dEnd jv0 dJ JD
theorem IsTy.len {d : Nat} {s : Bs} (h : IsTy d s) : s.length <= 7 * d := by
 induction h with
 | base h => rcases gi0 h with rfl | rfl | rfl <;> simp [eB0, cN0, cs0]
 | list h ih => simp; omega
 | mapI h ih => simp [bR0]; omega
 | mapT h ih => simp [aQ0]; omega
theorem j00 {s : Bs} (h : oz0 s = true) : s.length < 2 ^ 40 := by
 obtain ⟨d, hd, hr⟩ := o40 h
 have := hd.len
 omega
theorem ly0 (x : Slo) {t : Bs} (h : mc0 x = some t) : Ret prog k70 [x.V] (vS (bS t)) := by
 unfold mc0 at h
 split at h
 ·rename_i hb
  rw [Bool.and_eq_true] at hb
  injection h with h
  have ha : x.name ++ ⟨⟨[58, 32]⟩⟩ ++ x.type = bS t := by
   rw [<- h, <- bI0, <- bI0]; try rfl
  have hn : x.name.size <= 16 := nI0 hb.2
  have hty : x.type.size < 2 ^ 40 := j00 hb.1
  have h2 : (⟨⟨[58, 32]⟩⟩ : ByteArray).size = 2 := rfl
  have hn1 : x.name.size + (⟨⟨[58, 32]⟩⟩ : ByteArray).size <= 9223372036854775807 := by omega
  have hn2 : x.name.size + (⟨⟨[58, 32]⟩⟩ : ByteArray).size + x.type.size <= 9223372036854775807 := by omega
  have hn3 : x.name.size <= 9223372036854775807 := by omega
  refine aq0 np0 (by simp) ?_
  simp +contextual (maxSteps := 2000000) (disch := omega) [-Int.not_lt, -Int.not_le, -Nat.not_lt, -Nat.not_le, sx, kp0, Slo.V]
  refine ai0 ?_; simp; refine ah0 (c70 (sB x.type) (j00 hb.1)) (by simp) ?_
  rw [hb.1]
  simp +contextual (maxSteps := 2000000) (disch := omega) [-Int.not_lt, -Int.not_le, -Nat.not_lt, -Nat.not_le, sx]
  refine aa0 [] rfl rfl (by simp) ?_
  simp
  have hpO := aj0
  try simp [ae0, ad0] at hpO
  refine ab0 6 hpO (by simp) ?_
  clear hpO
  simp +contextual (maxSteps := 2000000) (disch := omega) [-Int.not_lt, -Int.not_le, -Nat.not_lt, -Nat.not_le, sx]
  refine cR0 ?_; simp; refine ah0 ((show Ret prog dY0 [vS x.name] (vS x.name) from gt0 hb.2)) (by simp) ?_
  simp +contextual (maxSteps := 2000000) (disch := omega) [-Int.not_lt, -Int.not_le, -Nat.not_lt, -Nat.not_le, sx, ha, hn1, hn2, hn3]
  refine endR _ _ (Wk.refl _ _) [] (by simp) ?_
  simp +contextual (maxSteps := 2000000) (disch := omega) [-Int.not_lt, -Int.not_le, -Nat.not_lt, -Nat.not_le, sx]
 ·cases h
theorem put_nil (L : List Bs) (hl : L.flatten.length < 2 ^ 40) (hL : L.length < 2 ^ 30) :
  J prog cC0 [.bp (.e 0) 0, .lst (L.map dt0)] (au0 69) (· = .ret (.tup []) (ae0 69 L.flatten)) := by
 rw [<- bM0] at *
 refine aq0 da0 (by simp [au0]) ?_
 simp +contextual (maxSteps := 2000000) (disch := omega) [-Int.not_lt, -Int.not_le, -Nat.not_lt, -Nat.not_le, sx, cj0, au0, hpE]
 refine ca0 L.length (fun i => [(8, vI i), (7, vI L.length), (6, .lst (L.map dt0)), (0, .bp (.e 0) 0)])
  (fun i => [(.e 0, .box [.self (.e 0) 69, .arr (.l 999 0) 0 (aO0 L i).length]), (.l 999 0, .row 5 1 true ((aO0 L i).map aR0))])
  (Wk.trans (Wk.subs (by simp) (by simp [a30])) (Wk.rowB (b := .e 0) (id := .l 999 0) (off := 1) (ty := 5) (sz := 1) rfl rfl (by simp) (by simp))) ?_
 intro i hi
 by_cases hlt : i < L.length
 ·have hlt' : (i : Int) < L.length := by omega
  have hle := g00 L (i + 1)
  rw [<- bM0] at hle
  have hsucc := dZ0 hlt
  have hlen : (aO0 L (i + 1)).length = (aO0 L i).length + L[i].length := by rw [hsucc, List.length_append]
  simp +contextual (maxSteps := 2000000) (disch := omega) [-Int.not_lt, -Int.not_le, -Nat.not_lt, -Nat.not_le, sx, hlt']
  refine aa0 [.e 0, .l 999 0] rfl rfl (by simp) ?_
  simp
  have hpO := eu0 69 (aO0 L i) L[i] hT69 (by omega)
  try simp [ae0, ad0] at hpO
  refine ab0 16 hpO (by simp) ?_
  clear hpO
  simp +contextual (maxSteps := 2000000) (disch := omega) [-Int.not_lt, -Int.not_le, -Nat.not_lt, -Nat.not_le, sx]
  refine .of hlt (Wk.rens (.l 16 0) (.l 999 0) rfl (by simp) (by simp [renF, hsucc]) (by simp [renF, bC0, hsucc]))
 ·have hge' : ¬ (i : Int) < L.length := by omega
  have : i = L.length := by omega
  subst this
  simp +contextual (maxSteps := 2000000) (disch := omega) [-Int.not_lt, -Int.not_le, -Nat.not_lt, -Nat.not_le, sx, hge']
  refine endN _ _ (Wk.refl _ _) [.l 999 0] (by simp) ?_
  simp +contextual (maxSteps := 2000000) (disch := omega) [-Int.not_lt, -Int.not_le, -Nat.not_lt, -Nat.not_le, sx, ae0]
theorem hD0 (s : Bs) (n : Int) : JD prog true jy0 [.bp (.e 0) 0, .bp (.e 1) 0] [.box [vS (bS s)], .box [vI n]] none (· = .ret (.tup []) [.box [vS (bS s)], .box [vI n]]) := by
 refine JR_of lP0 (by simp) (by simp) ?_
 simp +contextual (maxSteps := 2000000) (disch := omega) [-Int.not_lt, -Int.not_le, -Nat.not_lt, -Nat.not_le, sx, iR0, hpE, pvV]
 refine endN _ _ (Wk.refl _ _) [] (by simp) ?_
 simp +contextual (maxSteps := 2000000) (disch := omega) [-Int.not_lt, -Int.not_le, -Nat.not_lt, -Nat.not_le, sx]
theorem jX0 : ∀ {l : List Slo} {t : Bs}, jW0 l = some t -> ∃ ts : List Bs, ts.length = l.length /\ (∀ i (hi : i < l.length) (hi2 : i < ts.length), mc0 l[i] = some ts[i]) /\ t = (ts.map fun a => gr0 ++ [32] ++ a ++ [59, 10]).flatten
 | [], t, h => by rw [jW0.eq_def] at h; simp at h; subst h; exact ⟨[], rfl, fun i hi => by simp at hi, rfl⟩
 | x :: l, t, h => by
  rw [jW0.eq_def] at h
  dsimp only at h
  split at h
  ·rename_i a b ha hb
   injection h with h
   obtain ⟨ts, h1, h2, h3⟩ := jX0 hb
   refine ⟨a :: ts, by simp [h1], fun i hi hi2 => ?_, by simp [<- h, h3]⟩
   cases i with
   | zero => exact ha
   | succ i => exact h2 i (by simpa using hi) (by simpa using hi2)
  ·cases h
theorem lx0 : ∀ {l : List Fun} {t : Bs}, nS0 l = some t -> ∃ ts : List Bs, ts.length = l.length /\ (∀ i (hi : i < l.length) (hi2 : i < ts.length), shFun l[i] = some ts[i]) /\ t = ts.flatten
 | [], t, h => by rw [nS0.eq_def] at h; simp at h; subst h; exact ⟨[], rfl, fun i hi => by simp at hi, rfl⟩
 | x :: l, t, h => by
  rw [nS0.eq_def] at h
  dsimp only at h
  split at h
  ·rename_i a b ha hb
   injection h with h
   obtain ⟨ts, h1, h2, h3⟩ := lx0 hb
   refine ⟨a :: ts, by simp [h1], fun i hi hi2 => ?_, by simp [<- h, h3]⟩
   cases i with
   | zero => exact ha
   | succ i => exact h2 i (by simpa using hi) (by simpa using hi2)
  ·cases h
theorem ic0 : ∀ {l : List Slo} {ts : List Bs}, jl0 l = some ts -> ts.length = l.length /\ (∀ i (hi : i < l.length) (hi2 : i < ts.length), mc0 l[i] = some ts[i])
 | [], ts, h => by rw [jl0.eq_def] at h; simp at h; subst h; exact ⟨rfl, fun i hi => by simp at hi⟩
 | x :: l, ts, h => by
  rw [jl0.eq_def] at h
  dsimp only at h
  split at h
  ·rename_i a b ha hb
   injection h with h
   obtain ⟨h1, h2⟩ := ic0 hb
   subst h
   refine ⟨by simp [h1], fun i hi hi2 => ?_⟩
   cases i with
   | zero => exact ha
   | succ i => exact h2 i (by simpa using hi) (by simpa using hi2)
  ·cases h
structure Prg.tells (p : Prg) : Prop where
 v : p.version < 9223372036854775808
 s : p.states.length < 2 ^ 30
 f : p.fns.length < 2 ^ 30
 ps : ∀ f ∈ p.fns, f.params.length < 2 ^ 30
 b : ∀ f ∈ p.fns, f.body.length < 2 ^ 30
 pl : ∀ f ∈ p.fns, plB f.body = true
def shAns (t : Bs) : V := if t.length <= 16384 then .tup [vS (bS t), vI 0] else .tup [vS (bS []), vI 3]
set_option maxHeartbeats 3200000 in
theorem nT0 (p : Prg) (hp : p.tells) (hj : ∀ f ∈ p.fns, ∀ ps, jl0 f.params = some ps -> J prog gl0 [.arr (.e 0) 0 ps.length, vS (bS [44, 32])] [.row 9 1 true (ps.map dt0)] (· = .ret (vS (bS (sepB ps))) [.row 9 1 true (ps.map dt0)]))
  {t : Bs} (h : shP p = some t) (ht : t.length < 2 ^ 39) : Ret prog k50 [p.V] (shAns t) := by
 unfold shP at h
 split at h
 ·rename_i hv
  split at h
  ·rename_i a b ha hb
   injection h with h
   obtain ⟨ss, hs1, hs2, hs3⟩ := jX0 ha
   obtain ⟨fs, hf1, hf2, hf3⟩ := lx0 hb
   have hnum : pv0 p.version = bS (numB p.version) := rfl
   have hlen := congrArg List.length h
   simp only [List.length_append] at hlen
   have hp1 := hp.v
   refine J_dfr true nl0 (by simp) ?_
   simp +contextual (maxSteps := 2000000) (disch := omega) [-Int.not_lt, -Int.not_le, -Nat.not_lt, -Nat.not_le, sx, kw0, eG0, eF0, Prg.V]
   refine mu0 rfl rfl (.trans (.ren (.l 2 0) 0 (by simp) (by simp) (E := [(1, .bp (.l 1 0) 0), (2, .bp (.e 0) 0), (3, .bp (.l 3 0) 0)]) (h := [(.l 1 0, .box p.cells), (.e 0, .box [vS (bS [])]), (.l 3 0, .box [vI 0])]) (cs' := [.bp (.e 0) 0, .bp (.l 3 0) 0]) (by simp [renF]) (by simp [renF, bC0]) (by simp [renF]))
    (.ren (.l 3 0) 1 (by simp) (by simp) (E := [(1, .bp (.l 1 0) 0), (2, .bp (.e 0) 0), (3, .bp (.e 1) 0)]) (h := [(.l 1 0, .box p.cells), (.e 0, .box [vS (bS [])]), (.e 1, .box [vI 0])]) (cs' := [.bp (.e 0) 0, .bp (.e 1) 0]) (by simp [renF]) (by simp [renF, bC0]) (by simp [renF]))) rfl ?_
   simp +contextual (maxSteps := 2000000) (disch := omega) [-Int.not_lt, -Int.not_le, -Nat.not_lt, -Nat.not_le, sx, hv, Prg.ac0, eG0, eF0]
   refine aa0 [] rfl rfl (by simp) ?_
   simp
   have hpO := aj0
   try simp [ae0, ad0, au0, bldObsX] at hpO
   refine ab0 19 hpO (by simp) ?_
   clear hpO
   simp +contextual (maxSteps := 2000000) (disch := omega) [-Int.not_lt, -Int.not_le, -Nat.not_lt, -Nat.not_le, sx]
   refine ai0 ?_; simp; refine ah0 (gO0 p.version (by omega) hp1) (by simp) ?_
   rw [hnum]
   simp +contextual (maxSteps := 2000000) (disch := omega) [-Int.not_lt, -Int.not_le, -Nat.not_lt, -Nat.not_le, sx]
   generalize hM : (ss.map fun a => gr0 ++ [32] ++ a ++ [59, 10]) = M at *
   have hMl : M.length = p.states.length := by rw [<- hM]; simp [hs1]
   have hMg : ∀ i (hi : i < p.states.length), M[i]'(by omega) = gr0 ++ [32] ++ ss[i]'(by omega) ++ [59, 10] := fun i hi => by simp [<- hM]
   have hps := hp.s
   have hpf := hp.f
   rw [<- bM0, hMl] at hs3
   rw [<- bM0, hf1] at hf3
   subst hs3 hf3
   have hput := put_nil [dK0 ++ [32], numB p.version, [59, 10]] (by simp; simp at hlen; omega) (by simp)
   refine aa0 [.l 15 0] rfl rfl (by simp) ?_
   simp
   have hpO := hput
   try simp [ae0, ad0, au0, bldObsX] at hpO
   refine ab0 25 hpO (by simp) ?_
   clear hpO
   simp +contextual (maxSteps := 2000000) (disch := omega) [-Int.not_lt, -Int.not_le, -Nat.not_lt, -Nat.not_le, sx]
   generalize hB0 : dK0 ++ [32] ++ numB p.version ++ [59, 10] = B0 at *
   have hB0e : [dK0 ++ [32], numB p.version, [59, 10]].flatten = B0 := by rw [<- hB0]; simp
   refine ca0 p.states.length (fun i => [(29, vI i), (28, vI p.states.length), (27, .lst (p.states.map Slo.cells)), (4, .bp (.l 15 0) 0), (1, .bp (.l 1 0) 0), (2, .bp (.e 0) 0), (3, .bp (.e 1) 0)])
    (fun i => [(.l 15 0, .box [.self (.l 15 0) 69, .arr (.l 999 0) 0 (B0 ++ aO0 M i).length]), (.l 999 0, .row 5 1 true ((B0 ++ aO0 M i).map aR0)), (.l 1 0, .box p.cells), (.e 0, .box [vS (bS [])]), (.e 1, .box [vI 0])])
    (Wk.rens (.l 25 0) (.l 999 0) rfl (by simp) (by simp [renF, a30, <- hB0]) (by simp [renF, bC0, a30, <- hB0, Prg.ac0])) ?_
   have htl : B0.length + (aO0 M p.states.length).length + (aO0 fs p.fns.length).length < 2 ^ 39 := by
    have := congrArg List.length h; simp only [List.length_append] at this; omega
   clear hput
   intro i hi
   by_cases hlt : i < p.states.length
   ·have hlt' : (i : Int) < p.states.length := by omega
    have hle := g00 M (i + 1)
    rw [<- bM0, hMl] at hle
    have hsucc := dZ0 (L := M) (i := i) (by omega)
    rw [hMg i hlt] at hsucc
    have hle2 := hle
    rw [hsucc] at hle2
    simp only [List.length_append, List.length_cons, List.length_nil] at hle2
    simp +contextual (maxSteps := 2000000) (disch := omega) [-Int.not_lt, -Int.not_le, -Nat.not_lt, -Nat.not_le, sx, hlt']
    refine ai0 ?_; simp; refine ah0 (ly0 _ (hs2 i hlt (by omega))) (by simp) ?_
    simp +contextual (maxSteps := 2000000) (disch := omega) [-Int.not_lt, -Int.not_le, -Nat.not_lt, -Nat.not_le, sx]
    refine aa0 [.l 15 0, .l 999 0] rfl rfl (by simp) ?_
    simp
    have hpO := ao0 (B0 ++ aO0 M i) [gr0 ++ [32], ss[i]'(by omega), [59, 10]] (by simp only [List.flatten_cons, List.flatten_nil, List.append_nil, List.length_append, List.length_cons, List.length_nil]; omega) (by simp)
    try simp [ae0, ad0, au0, bldObsX] at hpO
    refine ab0 37 hpO (by simp) ?_
    clear hpO
    simp +contextual (maxSteps := 2000000) (disch := omega) [-Int.not_lt, -Int.not_le, -Nat.not_lt, -Nat.not_le, sx]
    have hflat : B0 ++ aO0 M i ++ [gr0 ++ [32], ss[i]'(by omega), [59, 10]].flatten = B0 ++ aO0 M (i + 1) := by
     rw [hsucc]; simp
    have e1 := congrArg List.length hflat
    have e2 := congrArg (List.map aR0) hflat
    simp at e1 e2
    refine .of hlt (Wk.rens (.l 37 0) (.l 999 0) rfl (by simp) (by simp [renF]) (by simp [renF, bC0, e1, e2]))
   ·have hge' : ¬ (i : Int) < p.states.length := by omega
    have : i = p.states.length := by omega
    subst this
    simp +contextual (maxSteps := 2000000) (disch := omega) [-Int.not_lt, -Int.not_le, -Nat.not_lt, -Nat.not_le, sx, hge']
    generalize hB1 : B0 ++ aO0 M p.states.length = B1 at *
    have hB1l : B1.length = B0.length + (aO0 M p.states.length).length := by rw [<- hB1, List.length_append]
    have hB1' := congrArg (List.map aR0) hB1
    simp only [List.map_append] at hB1'
    refine ca0 p.fns.length (fun i => [(42, vI i), (41, vI p.fns.length), (40, .lst (p.fns.map Fun.cells)), (4, .bp (.l 15 0) 0), (1, .bp (.l 1 0) 0), (2, .bp (.e 0) 0), (3, .bp (.e 1) 0)])
     (fun i => [(.l 15 0, .box [.self (.l 15 0) 69, .arr (.l 999 0) 0 (B1 ++ aO0 fs i).length]), (.l 999 0, .row 5 1 true ((B1 ++ aO0 fs i).map aR0)), (.l 1 0, .box p.cells), (.e 0, .box [vS (bS [])]), (.e 1, .box [vI 0])])
     (Wk.subs (by simp) (by simp [a30, Prg.ac0, hB1l, <- hB1'])) ?_
    intro i hi
    by_cases hlt : i < p.fns.length
    ·have hlt' : (i : Int) < p.fns.length := by omega
     have hle := g00 fs (i + 1)
     rw [<- bM0, hf1] at hle
     have hsucc := dZ0 (L := fs) (i := i) (by omega)
     have hF := hf2 i hlt (by omega)
     have hmem : p.fns[i] ∈ p.fns := List.getElem_mem _
     have hJ := hj _ hmem
     have hpb : ∀ {tt : Bs}, shB 0 p.fns[i].body = some tt -> lH0 0 p.fns[i].body tt := fun hh => mS0 (n := 0) (hp.b _ hmem) hh (fun x hx tt hs => putsS (SizeOf.sizeOf x + 1) 1 x (by omega) (mP0 (hp.pl _ hmem) x hx) hs)
     have hpsl := hp.ps _ hmem
     generalize hfe : p.fns[i] = f at *
     generalize hfi : fs[i]'(by omega) = fi at *
     unfold shFun at hF
     split at hF
     ·rename_i ps bd hsl hbd
      split at hF
      ·rename_i hnt
       rw [Bool.and_eq_true] at hnt
       injection hF with hF
       cases hon : f.on with
       | true =>
        simp only [hon, if_true, kwOn] at hF
        simp +contextual (maxSteps := 2000000) (disch := omega) [-Int.not_lt, -Int.not_le, -Nat.not_lt, -Nat.not_le, sx, hlt', hfe, hon]
        refine ca0 f.params.length (fun j => [(51, vI j), (50, vI f.params.length), (49, .lst (f.params.map Slo.cells)), (10, .arr (.l 59 0) 0 j), (9, vS (bS [111, 110, 32])), (8, .bp (.l 8 0) 0), (42, vI i), (41, vI p.fns.length), (40, .lst (p.fns.map Fun.cells)), (4, .bp (.l 15 0) 0), (1, .bp (.l 1 0) 0), (2, .bp (.e 0) 0), (3, .bp (.e 1) 0)])
         (fun j => [(.l 59 0, .row 9 1 true ((ps.take j).map dt0)), (.l 8 0, .box f.cells), (.l 15 0, .box [.self (.l 15 0) 69, .arr (.l 999 0) 0 (B1 ++ aO0 fs i).length]), (.l 999 0, .row 5 1 true ((B1 ++ aO0 fs i).map aR0)), (.l 1 0, .box p.cells), (.e 0, .box [vS (bS [])]), (.e 1, .box [vI 0])])
         (Wk.trans (Wk.subs (by simp) (by simp)) (Wk.row (s := 10) (id := .l 59 0) (ty := 9) (sz := 1) rfl)) ?_
        intro j hjl
        obtain ⟨hpl1, hpl2⟩ := ic0 hsl
        have hfil := congrArg List.length hF
        have hle2 := congrArg List.length hsucc
        simp only [List.length_append, List.length_cons, List.length_nil] at hfil hle2
        by_cases hjlt : j < f.params.length
        ·have hjlt' : (j : Int) < f.params.length := by omega
         have htk : (ps.take (j + 1)).map dt0 = (ps.take j).map dt0 ++ [dt0 (ps[j]'(by omega))] := by
          rw [List.take_add_one, List.getElem?_eq_getElem (by omega : j < ps.length)]; simp
         simp +contextual (maxSteps := 2000000) (disch := omega) [-Int.not_lt, -Int.not_le, -Nat.not_lt, -Nat.not_le, sx, hjlt']
         refine ai0 ?_; simp; refine ah0 (ly0 _ (hpl2 j hjlt (by omega))) (by simp) ?_
         simp +contextual (maxSteps := 2000000) (disch := omega) [-Int.not_lt, -Int.not_le, -Nat.not_lt, -Nat.not_le, sx]
         refine .of hjlt (Wk.subs (by simp) (by simp [htk]))
        ·have hjge' : ¬ (j : Int) < f.params.length := by omega
         have : j = f.params.length := by omega
         subst this
         have htk : ps.take f.params.length = ps := by rw [<- hpl1]; exact List.take_length
         have htk' : List.take f.params.length (ps.map dt0) = ps.map dt0 := by rw [<- List.map_take, htk]
         simp +contextual (maxSteps := 2000000) (disch := omega) [-Int.not_lt, -Int.not_le, -Nat.not_lt, -Nat.not_le, sx, hjge', htk']
         refine ai0 ?_; simp; refine ah0 (c70 (sB f.result) (j00 hnt.1)) (by simp) ?_
         rw [hnt.1]
         simp +contextual (maxSteps := 2000000) (disch := omega) [-Int.not_lt, -Int.not_le, -Nat.not_lt, -Nat.not_le, sx]
         refine aa0 [] rfl rfl (by simp) ?_
         simp
         have hpO := aj0
         try simp [ae0, ad0, au0, bldObsX] at hpO
         refine ab0 64 hpO (by simp) ?_
         clear hpO
         simp +contextual (maxSteps := 2000000) (disch := omega) [-Int.not_lt, -Int.not_le, -Nat.not_lt, -Nat.not_le, sx]
         refine cR0 ?_; simp; refine ah0 ((show Ret prog dY0 [vS f.name] (vS f.name) from gt0 hnt.2)) (by simp) ?_
         simp +contextual (maxSteps := 2000000) (disch := omega) [-Int.not_lt, -Int.not_le, -Nat.not_lt, -Nat.not_le, sx]
         have hJp := hJ ps hsl
         rw [hpl1] at hJp
         refine aP0 [.l 59 0] [.l 59 0] rfl rfl (by simp) ?_
         simp
         have hpO := hJp
         try simp [ae0, ad0, au0, bldObsX] at hpO
         refine bG0 71 hpO (by simp) ?_
         clear hpO
         simp +contextual (maxSteps := 2000000) (disch := omega) [-Int.not_lt, -Int.not_le, -Nat.not_lt, -Nat.not_le, sx]
         refine aa0 [.l 15 0, .l 999 0] rfl rfl (by simp) ?_
         simp
         have hpO := ao0 (B1 ++ aO0 fs i) [[111, 110, 32], sB f.name, [40], sepB ps, [41, 58, 32], sB f.result, [32]] (by simp only [List.flatten_cons, List.flatten_nil, List.append_nil, List.length_append, List.length_cons, List.length_nil]; omega) (by simp)
         try simp [ae0, ad0, au0, bldObsX] at hpO
         refine ab0 75 hpO (by simp) ?_
         clear hpO
         simp +contextual (maxSteps := 2000000) (disch := omega) [-Int.not_lt, -Int.not_le, -Nat.not_lt, -Nat.not_le, sx]
         refine aa0 [.l 15 0, .l 75 0] rfl rfl (by simp) ?_
         simp
         have hpO := hpb hbd (B1 ++ aO0 fs i ++ [[111, 110, 32], sB f.name, [40], sepB ps, [41, 58, 32], sB f.result, [32]].flatten) (by simp only [List.flatten_cons, List.flatten_nil, List.append_nil, List.length_append, List.length_cons, List.length_nil]; omega)
         try simp [ae0, ad0, au0, bldObsX] at hpO
         refine ab0 79 hpO (by simp) ?_
         clear hpO
         simp +contextual (maxSteps := 2000000) (disch := omega) [-Int.not_lt, -Int.not_le, -Nat.not_lt, -Nat.not_le, sx]
         refine aa0 [.l 15 0, .l 79 0] rfl rfl (by simp) ?_
         simp
         have hpO := ao0 (B1 ++ aO0 fs i ++ [[111, 110, 32], sB f.name, [40], sepB ps, [41, 58, 32], sB f.result, [32]].flatten ++ bd) [[10]] (by simp only [List.flatten_cons, List.flatten_nil, List.append_nil, List.length_append, List.length_cons, List.length_nil]; omega) (by simp)
         try simp [ae0, ad0, au0, bldObsX] at hpO
         refine ab0 82 hpO (by simp) ?_
         clear hpO
         simp +contextual (maxSteps := 2000000) (disch := omega) [-Int.not_lt, -Int.not_le, -Nat.not_lt, -Nat.not_le, sx]
         have hflat : B1 ++ aO0 fs i ++ [[111, 110, 32], sB f.name, [40], sepB ps, [41, 58, 32], sB f.result, [32]].flatten ++ bd ++ [10] = B1 ++ aO0 fs (i + 1) := by
          rw [hsucc, <- hF]; simp
         have e1 := congrArg List.length hflat
         have e2 := congrArg (List.map aR0) hflat
         simp at e1 e2
         refine .of hlt (Wk.rens (.l 82 0) (.l 999 0) rfl (by simp) (by simp [renF]) (by simp [renF, bC0, e1, e2]))
       | false =>
        simp only [hon, Bool.false_eq_true, if_false, kwFn] at hF
        simp +contextual (maxSteps := 2000000) (disch := omega) [-Int.not_lt, -Int.not_le, -Nat.not_lt, -Nat.not_le, sx, hlt', hfe, hon]
        refine ca0 f.params.length (fun j => [(51, vI j), (50, vI f.params.length), (49, .lst (f.params.map Slo.cells)), (10, .arr (.l 59 0) 0 j), (9, vS (bS [102, 110, 32])), (8, .bp (.l 8 0) 0), (42, vI i), (41, vI p.fns.length), (40, .lst (p.fns.map Fun.cells)), (4, .bp (.l 15 0) 0), (1, .bp (.l 1 0) 0), (2, .bp (.e 0) 0), (3, .bp (.e 1) 0)])
         (fun j => [(.l 59 0, .row 9 1 true ((ps.take j).map dt0)), (.l 8 0, .box f.cells), (.l 15 0, .box [.self (.l 15 0) 69, .arr (.l 999 0) 0 (B1 ++ aO0 fs i).length]), (.l 999 0, .row 5 1 true ((B1 ++ aO0 fs i).map aR0)), (.l 1 0, .box p.cells), (.e 0, .box [vS (bS [])]), (.e 1, .box [vI 0])])
         (Wk.trans (Wk.subs (by simp) (by simp)) (Wk.row (s := 10) (id := .l 59 0) (ty := 9) (sz := 1) rfl)) ?_
        intro j hjl
        obtain ⟨hpl1, hpl2⟩ := ic0 hsl
        have hfil := congrArg List.length hF
        have hle2 := congrArg List.length hsucc
        simp only [List.length_append, List.length_cons, List.length_nil] at hfil hle2
        by_cases hjlt : j < f.params.length
        ·have hjlt' : (j : Int) < f.params.length := by omega
         have htk : (ps.take (j + 1)).map dt0 = (ps.take j).map dt0 ++ [dt0 (ps[j]'(by omega))] := by
          rw [List.take_add_one, List.getElem?_eq_getElem (by omega : j < ps.length)]; simp
         simp +contextual (maxSteps := 2000000) (disch := omega) [-Int.not_lt, -Int.not_le, -Nat.not_lt, -Nat.not_le, sx, hjlt']
         refine ai0 ?_; simp; refine ah0 (ly0 _ (hpl2 j hjlt (by omega))) (by simp) ?_
         simp +contextual (maxSteps := 2000000) (disch := omega) [-Int.not_lt, -Int.not_le, -Nat.not_lt, -Nat.not_le, sx]
         refine .of hjlt (Wk.subs (by simp) (by simp [htk]))
        ·have hjge' : ¬ (j : Int) < f.params.length := by omega
         have : j = f.params.length := by omega
         subst this
         have htk : ps.take f.params.length = ps := by rw [<- hpl1]; exact List.take_length
         have htk' : List.take f.params.length (ps.map dt0) = ps.map dt0 := by rw [<- List.map_take, htk]
         simp +contextual (maxSteps := 2000000) (disch := omega) [-Int.not_lt, -Int.not_le, -Nat.not_lt, -Nat.not_le, sx, hjge', htk']
         refine ai0 ?_; simp; refine ah0 (c70 (sB f.result) (j00 hnt.1)) (by simp) ?_
         rw [hnt.1]
         simp +contextual (maxSteps := 2000000) (disch := omega) [-Int.not_lt, -Int.not_le, -Nat.not_lt, -Nat.not_le, sx]
         refine aa0 [] rfl rfl (by simp) ?_
         simp
         have hpO := aj0
         try simp [ae0, ad0, au0, bldObsX] at hpO
         refine ab0 64 hpO (by simp) ?_
         clear hpO
         simp +contextual (maxSteps := 2000000) (disch := omega) [-Int.not_lt, -Int.not_le, -Nat.not_lt, -Nat.not_le, sx]
         refine cR0 ?_; simp; refine ah0 ((show Ret prog dY0 [vS f.name] (vS f.name) from gt0 hnt.2)) (by simp) ?_
         simp +contextual (maxSteps := 2000000) (disch := omega) [-Int.not_lt, -Int.not_le, -Nat.not_lt, -Nat.not_le, sx]
         have hJp := hJ ps hsl
         rw [hpl1] at hJp
         refine aP0 [.l 59 0] [.l 59 0] rfl rfl (by simp) ?_
         simp
         have hpO := hJp
         try simp [ae0, ad0, au0, bldObsX] at hpO
         refine bG0 71 hpO (by simp) ?_
         clear hpO
         simp +contextual (maxSteps := 2000000) (disch := omega) [-Int.not_lt, -Int.not_le, -Nat.not_lt, -Nat.not_le, sx]
         refine aa0 [.l 15 0, .l 999 0] rfl rfl (by simp) ?_
         simp
         have hpO := ao0 (B1 ++ aO0 fs i) [[102, 110, 32], sB f.name, [40], sepB ps, [41, 58, 32], sB f.result, [32]] (by simp only [List.flatten_cons, List.flatten_nil, List.append_nil, List.length_append, List.length_cons, List.length_nil]; omega) (by simp)
         try simp [ae0, ad0, au0, bldObsX] at hpO
         refine ab0 75 hpO (by simp) ?_
         clear hpO
         simp +contextual (maxSteps := 2000000) (disch := omega) [-Int.not_lt, -Int.not_le, -Nat.not_lt, -Nat.not_le, sx]
         refine aa0 [.l 15 0, .l 75 0] rfl rfl (by simp) ?_
         simp
         have hpO := hpb hbd (B1 ++ aO0 fs i ++ [[102, 110, 32], sB f.name, [40], sepB ps, [41, 58, 32], sB f.result, [32]].flatten) (by simp only [List.flatten_cons, List.flatten_nil, List.append_nil, List.length_append, List.length_cons, List.length_nil]; omega)
         try simp [ae0, ad0, au0, bldObsX] at hpO
         refine ab0 79 hpO (by simp) ?_
         clear hpO
         simp +contextual (maxSteps := 2000000) (disch := omega) [-Int.not_lt, -Int.not_le, -Nat.not_lt, -Nat.not_le, sx]
         refine aa0 [.l 15 0, .l 79 0] rfl rfl (by simp) ?_
         simp
         have hpO := ao0 (B1 ++ aO0 fs i ++ [[102, 110, 32], sB f.name, [40], sepB ps, [41, 58, 32], sB f.result, [32]].flatten ++ bd) [[10]] (by simp only [List.flatten_cons, List.flatten_nil, List.append_nil, List.length_append, List.length_cons, List.length_nil]; omega) (by simp)
         try simp [ae0, ad0, au0, bldObsX] at hpO
         refine ab0 82 hpO (by simp) ?_
         clear hpO
         simp +contextual (maxSteps := 2000000) (disch := omega) [-Int.not_lt, -Int.not_le, -Nat.not_lt, -Nat.not_le, sx]
         have hflat : B1 ++ aO0 fs i ++ [[102, 110, 32], sB f.name, [40], sepB ps, [41, 58, 32], sB f.result, [32]].flatten ++ bd ++ [10] = B1 ++ aO0 fs (i + 1) := by
          rw [hsucc, <- hF]; simp
         have e1 := congrArg List.length hflat
         have e2 := congrArg (List.map aR0) hflat
         simp at e1 e2
         refine .of hlt (Wk.rens (.l 82 0) (.l 999 0) rfl (by simp) (by simp [renF]) (by simp [renF, bC0, e1, e2]))
      ·cases hF
     ·cases hF
    ·have hge' : ¬ (i : Int) < p.fns.length := by omega
     have : i = p.fns.length := by omega
     subst this
     simp +contextual (maxSteps := 2000000) (disch := omega) [-Int.not_lt, -Int.not_le, -Nat.not_lt, -Nat.not_le, sx, hge']
     rw [<- h] at ht ⊢
     refine aa0 [.l 15 0, .l 999 0] rfl rfl (by simp) ?_
     simp
     have hpO := hg0 69 (B1 ++ aO0 fs p.fns.length)
     try simp [ae0, ad0, au0, bldObsX] at hpO
     refine ab0 87 hpO (by simp) ?_
     clear hpO
     have hne : B1 ++ aO0 fs p.fns.length ≠ [] := by rw [<- hB1, <- hB0]; simp [dK0]
     by_cases hbig : (B1 ++ aO0 fs p.fns.length).length <= 16384
     ·have hb2 : ¬ (16384 : Int) < ((B1 ++ aO0 fs p.fns.length).length : Nat) := by omega
      have hbig' := hbig
      simp only [List.length_append] at hbig'
      rw [List.length_append] at hb2
      simp +contextual (maxSteps := 2000000) (disch := omega) [-Int.not_lt, -Int.not_le, -Nat.not_lt, -Nat.not_le, sx, hb2]
      refine aa0 [.l 15 0, .l 999 0] rfl rfl (by simp) ?_
      simp
      have hpO := Builder_String_spec 69 (B1 ++ aO0 fs p.fns.length) hne
      try simp [ae0, ad0, au0, bldObsX] at hpO
      refine ab0 92 hpO (by simp) ?_
      clear hpO
      simp +contextual (maxSteps := 2000000) (disch := omega) [-Int.not_lt, -Int.not_le, -Nat.not_lt, -Nat.not_le, sx]
      refine kQ0 _ _ (Wk.refl _ _) (dz0 [.e 0, .e 1] (by simp) ?_)
      simp
      refine kr0 (hD0 (B1 ++ aO0 fs p.fns.length) 0) (by simp) ?_
      simp
      refine endR _ _ (Wk.refl _ _) [] (by simp) ?_
      simp +contextual (maxSteps := 2000000) (disch := omega) [-Int.not_lt, -Int.not_le, -Nat.not_lt, -Nat.not_le, sx, shAns, hbig']
     ·have hb2 : (16384 : Int) < ((B1 ++ aO0 fs p.fns.length).length : Nat) := by omega
      have hbig' := hbig
      simp only [List.length_append] at hbig'
      rw [List.length_append] at hb2
      simp +contextual (maxSteps := 2000000) (disch := omega) [-Int.not_lt, -Int.not_le, -Nat.not_lt, -Nat.not_le, sx, hb2]
      refine kQ0 _ _ (Wk.refl _ _) (dz0 [.e 0, .e 1] (by simp) ?_)
      simp
      refine kr0 (hD0 [] 3) (by simp) ?_
      simp
      refine endR _ _ (Wk.refl _ _) [] (by simp) ?_
      simp +contextual (maxSteps := 2000000) (disch := omega) [-Int.not_lt, -Int.not_le, -Nat.not_lt, -Nat.not_le, sx, shAns, hbig']
  ·cases h
 ·cases h
theorem Join_own0 (s : Bs) : J prog gl0 [.arr (.e 0) 0 0, vS (bS s)] [.row 9 1 true []] (· = .ret (vS (bS [])) [.row 9 1 true []]) := by
 refine aq0 lb0 (by simp) ?_
 simp +contextual (maxSteps := 2000000) (disch := omega) [-Int.not_lt, -Int.not_le, -Nat.not_lt, -Nat.not_le, sx, hN0, hpE]
 refine endR _ _ (Wk.refl _ _) [] (by simp) ?_
 simp +contextual (maxSteps := 2000000) (disch := omega) [-Int.not_lt, -Int.not_le, -Nat.not_lt, -Nat.not_le, sx]
def jr0 : Bs := [118, 101, 114, 115, 105, 111, 110, 32, 49, 59, 102, 110, 32, 102, 40, 41, 58, 105, 110, 116, 123, 114, 101, 116, 32, 40, 40, 49, 43, 50, 41, 42, 51, 41, 45, 40, 45, 52, 41, 59, 125]
def m70 : Bs := [118, 101, 114, 115, 105, 111, 110, 32, 49, 59, 10, 102, 110, 32, 102, 40, 41, 58, 32, 105, 110, 116, 32, 123, 10, 9, 114, 101, 116, 32, 40, 49, 32, 43, 32, 50, 41, 32, 42, 32, 51, 32, 45, 32, 45, 52, 59, 10, 125, 10]
def tellsB (p : Prg) : Bool := decide (p.version < 9223372036854775808 /\ p.states.length < 2 ^ 30 /\ p.fns.length < 2 ^ 30) && p.fns.all fun f => decide (f.params.length = 0 /\ f.body.length < 2 ^ 30) && plB f.body
def wakeB : Bool := match l80 jr0 100 with
 | .ok p => tellsB p && shP p == some m70
 | .bad _ _ => false
theorem pT0 : wakeB = true := by kernel_rfl
theorem wake_prg : ∃ p, l80 jr0 100 = .ok p /\ p.tells /\ shP p = some m70 /\ ∀ f ∈ p.fns, f.params = [] := by
 have h := pT0
 unfold wakeB at h
 split at h
 ·rename_i p hp
  refine ⟨p, hp, ?_⟩
  unfold tellsB at h
  simp only [Bool.and_eq_true, decide_eq_true_eq, List.all_eq_true, beq_iff_eq] at h
  obtain ⟨⟨⟨a, b, c⟩, d⟩, e⟩ := h
  refine ⟨⟨a, b, c, fun f hf => ?_, fun f hf => (d f hf).1.2, fun f hf => (d f hf).2⟩, e, fun f hf => List.length_eq_zero_iff.1 (d f hf).1.1⟩
  have := (d f hf).1.1
  omega
 ·cases h
theorem pU0 : Ret prog fZ0 [] (vB true) := by
 obtain ⟨p, hp, ht, hs, hf⟩ := wake_prg
 have hP := kJ0 (bS jr0) (by decide) 100 (by rw [show sB (bS jr0) = jr0 from rfl, hp]; simp [LxR.live])
 rw [show sB (bS jr0) = jr0 from rfl, hp] at hP
 have hS := nT0 p ht (fun f hff ps hps => by
  rw [hf f hff] at hps
  rw [jl0.eq_def] at hps
  simp at hps
  subst hps
  exact Join_own0 _) hs (by decide)
 refine de0 jg0 (by simp) ?_
 simp +contextual (maxSteps := 2000000) (disch := omega) [-Int.not_lt, -Int.not_le, -Nat.not_lt, -Nat.not_le, sx, fd0]
 refine ai0 ?_; simp; refine ah0 hP (by simp [l90, V.pure, V.bo0]) ?_
 simp +contextual (maxSteps := 2000000) (disch := omega) [-Int.not_lt, -Int.not_le, -Nat.not_lt, -Nat.not_le, sx, l90]
 refine ai0 ?_; simp; refine ah0 hS (by simp [shAns, m70, V.pure, V.bo0]) ?_
 simp +contextual (maxSteps := 2000000) (disch := omega) [-Int.not_lt, -Int.not_le, -Nat.not_lt, -Nat.not_le, sx, shAns, m70]
def m90 (s : Bs) (ws : List Bool) : Bs := ws.foldl (fun s w => if w then [91] ++ s ++ [93] else aQ0 ++ s ++ [125]) s
theorem wrapT_ty (ws : List Bool) : ∀ {d : Nat} {s : Bs}, IsTy d s -> IsTy (d + ws.length) (m90 s ws) := by
 induction ws with
 | nil => intro d s h; exact h
 | cons w ws ih =>
  intro d s h
  have h2 : IsTy (d + 1) (if w then [91] ++ s ++ [93] else aQ0 ++ s ++ [125]) := by
   cases w
   ·exact .mapT h
   ·exact .list h
  have := ih h2
  rw [show d + (w :: ws).length = d + 1 + ws.length by simp; omega]
  exact this
theorem pX0 (s : Bs) (ws : List Bool) (w : Bool) : m90 s (ws ++ [w]) = if w then [91] ++ m90 s ws ++ [93] else aQ0 ++ m90 s ws ++ [125] := by
 simp [m90, List.foldl_append]
theorem pY0 {s : Bs} {ws : List Bool} {i : Nat} (h : i < ws.length) : m90 s (ws.take (i + 1)) = if ws[i] then [91] ++ m90 s (ws.take i) ++ [93] else aQ0 ++ m90 s (ws.take i) ++ [125] := by
 rw [List.take_add_one, List.getElem?_eq_getElem h, Option.toList_some, pX0]
theorem type_ty {d : Nat} {s : Bs} (h : IsTy d s) (hd : d < 2 ^ 36) : Ret prog gX0 [vS (bS s)] (vB (decide (d <= 4))) := by
 have := c70 s (by have := h.len; omega)
 rw [oz0, tyB_ty h] at this
 exact this
theorem m30 {s : Bs} (h : oz0 s = false) (hl : s.length < 2 ^ 40) : Ret prog gX0 [vS (bS s)] (vB false) := by
 have := c70 s hl
 rw [h] at this; exact this
theorem kinds {k : Int} (h0 : 0 <= k) (h1 : k < 3) : ∃ s : Bs, dp0 s = true /\ [vS (bS [105, 110, 116]), vS (bS [98, 111, 111, 108]), vS (bS [116, 101, 120, 116])][k.toNat]? = some (vS (bS s)) := by
 have : k = 0 \/ k = 1 \/ k = 2 := by omega
 rcases this with rfl | rfl | rfl
 ·exact ⟨eB0, by decide, rfl⟩
 ·exact ⟨cN0, by decide, rfl⟩
 ·exact ⟨cs0, by decide, rfl⟩
theorem lI0 (kind : Int) (ws : List Bool) (junk : ByteArray) (hw : ws.length < 2 ^ 30) :
  Ret prog dT0 [vI kind, .lst (ws.map fun b => [vB b]), vS junk] (vB true) := by
 refine aq0 dH0 (by simp) ?_
 simp +contextual (maxSteps := 2000000) (disch := omega) [-Int.not_lt, -Int.not_le, -Nat.not_lt, -Nat.not_le, sx, dx0]
 refine ai0 ?_; simp; refine ah0 (pU0) (by simp) ?_
 simp +contextual (maxSteps := 2000000) (disch := omega) [-Int.not_lt, -Int.not_le, -Nat.not_lt, -Nat.not_le, sx]
 have hk0 : 0 <= (IntKind.u64.wrap kind).tmod 3 := Int.tmod_nonneg _ (by simp [IntKind.wrap, IntKind.bits, IntKind.signed]; omega)
 have hk1 : (IntKind.u64.wrap kind).tmod 3 < 3 := Int.tmod_lt_of_pos _ (by omega)
 obtain ⟨s0, hs0, hn⟩ := kinds hk0 hk1
 generalize (IntKind.u64.wrap kind).tmod 3 = k at *
 refine ⟨hk0, hk1, ?_⟩
 rw [h30]; refine ⟨_, hn, ?_⟩
 have hT0 : IsTy 1 s0 := .base hs0
 generalize hT : (fun i => m90 s0 (ws.take i)) = T at *
 have hTi : ∀ i, i <= ws.length -> IsTy (1 + i) (T i) := fun i hi => by
  have h := wrapT_ty (ws.take i) hT0
  rw [List.length_take, Nat.min_eq_left hi] at h
  rw [<- hT]; exact h
 have hT1 : T 0 = s0 := by rw [<- hT]; rfl
 have hTs : ∀ i (h : i < ws.length), T (i + 1) = if ws[i] then [91] ++ T i ++ [93] else aQ0 ++ T i ++ [125] := fun i h => by rw [<- hT]; exact pY0 h
 clear hT
 simp +contextual (maxSteps := 2000000) (disch := omega) [-Int.not_lt, -Int.not_le, -Nat.not_lt, -Nat.not_le, sx]
 refine ca0 ws.length (fun i => [(20, vI i), (19, vI ws.length), (18, .lst (ws.map fun b => [vB b])), (8, vI (i + 1)), (7, vS (bS (T i))), (2, vS junk)]) (fun i => []) (Wk.subs (by simp [hT1]) (by simp)) ?_
 intro i hi
 have hty := hTi i hi
 have hlen := hty.len
 have hc := type_ty hty (by omega)
 rw [show decide (1 + i <= 4) = decide ((i : Int) + 1 <= 4) by simp; omega] at hc
 have hsz : (bS (T i)).size = (T i).length := rfl
 by_cases hlt : i < ws.length
 ·have hlt' : (i : Int) < ws.length := by omega
  by_cases h6 : 6 <= i
  ·have h6' : (6 : Int) < (i : Int) + 1 := by omega
   simp +contextual (maxSteps := 2000000) (disch := omega) [-Int.not_lt, -Int.not_le, -Nat.not_lt, -Nat.not_le, sx, hlt', h6']
   refine endR _ _ (Wk.refl _ _) [] (by simp) ?_
   simp +contextual (maxSteps := 2000000) (disch := omega) [-Int.not_lt, -Int.not_le, -Nat.not_lt, -Nat.not_le, sx]
  ·have h6' : ¬ (6 : Int) < (i : Int) + 1 := by omega
   simp +contextual (maxSteps := 2000000) (disch := omega) [-Int.not_lt, -Int.not_le, -Nat.not_lt, -Nat.not_le, sx, hlt', h6']
   refine ai0 ?_; simp; refine ah0 (hc) (by simp) ?_
   have q1 : (⟨⟨[91]⟩⟩ : ByteArray).size = 1 := rfl
   have q2 : (⟨⟨[93]⟩⟩ : ByteArray).size = 1 := rfl
   have q3 : (⟨⟨[123, 116, 101, 120, 116, 58]⟩⟩ : ByteArray).size = 6 := rfl
   have q4 : (⟨⟨[125]⟩⟩ : ByteArray).size = 1 := rfl
   have hs := hTs i hlt
   cases hwi : ws[i] with
   | true =>
    have e : (⟨⟨[91]⟩⟩ : ByteArray) ++ bS (T i) ++ ⟨⟨[93]⟩⟩ = bS (T (i + 1)) := by
     rw [hs, hwi, if_pos rfl, <- bI0, <- bI0]
    simp +contextual (maxSteps := 2000000) (disch := omega) [-Int.not_lt, -Int.not_le, -Nat.not_lt, -Nat.not_le, sx, hwi, q1, q2, hsz, e]
    refine .of hlt (Wk.subs (by simp [e]) (by simp))
   | false =>
    have e : (⟨⟨[123, 116, 101, 120, 116, 58]⟩⟩ : ByteArray) ++ bS (T i) ++ ⟨⟨[125]⟩⟩ = bS (T (i + 1)) := by
     rw [hs, hwi, if_neg (by simp), <- bI0, <- bI0]; rfl
    simp +contextual (maxSteps := 2000000) (disch := omega) [-Int.not_lt, -Int.not_le, -Nat.not_lt, -Nat.not_le, sx, hwi, q3, q4, hsz, e]
    refine .of hlt (Wk.subs (by simp [e]) (by simp))
 ·have hge' : ¬ (i : Int) < ws.length := by omega
  have : i = ws.length := by omega
  subst this
  simp +contextual (maxSteps := 2000000) (disch := omega) [-Int.not_lt, -Int.not_le, -Nat.not_lt, -Nat.not_le, sx, hge']
  refine ai0 ?_; simp; refine ah0 (hc) (by simp) ?_
  have q1 : (⟨⟨[32]⟩⟩ : ByteArray).size = 1 := rfl
  have q2 : (⟨⟨[123, 98, 111, 111, 108, 58]⟩⟩ : ByteArray).size = 6 := rfl
  have q3 : (⟨⟨[125]⟩⟩ : ByteArray).size = 1 := rfl
  have hjs : junk.size = (sB junk).length := rfl
  have e1 : bS (T ws.length) ++ (⟨⟨[32]⟩⟩ : ByteArray) = bS (T ws.length ++ [32]) := bI0 _ _
  have e2 : (⟨⟨[32]⟩⟩ : ByteArray) ++ bS (T ws.length) = bS (32 :: T ws.length) := bI0 [32] _
  have e3 : (⟨⟨[123, 98, 111, 111, 108, 58]⟩⟩ : ByteArray) ++ bS (T ws.length) ++ ⟨⟨[125]⟩⟩ = bS ([123, 98, 111, 111, 108, 58] ++ T ws.length ++ [125]) := by
   rw [<- bI0, <- bI0]
  have e4 : bS (T ws.length) ++ junk = bS (T ws.length ++ sB junk) := by rw [<- bI0]
  have c1 := m30 (s := T ws.length ++ [32]) (o50 hty (by simp)) (by simp; omega)
  have c2 := m30 (s := 32 :: T ws.length) tyB_blank (by simp; omega)
  have c3 := m30 (s := [123, 98, 111, 111, 108, 58] ++ T ws.length ++ [125]) (by rw [List.append_assoc]; exact tyB_mapB) (by simp; omega)
  by_cases hj : (1024 : Int) < (junk.size : Int)
  ·simp +contextual (maxSteps := 2000000) (disch := omega) [-Int.not_lt, -Int.not_le, -Nat.not_lt, -Nat.not_le, sx, hj]
   refine endR _ _ (Wk.refl _ _) [] (by simp) ?_
   simp +contextual (maxSteps := 2000000) (disch := omega) [-Int.not_lt, -Int.not_le, -Nat.not_lt, -Nat.not_le, sx]
  ·simp +contextual (maxSteps := 2000000) (disch := omega) [-Int.not_lt, -Int.not_le, -Nat.not_lt, -Nat.not_le, sx, hj, q1, hsz, e1]
   refine ai0 ?_; simp; refine ah0 (c1) (by simp) ?_
   simp +contextual (maxSteps := 2000000) (disch := omega) [-Int.not_lt, -Int.not_le, -Nat.not_lt, -Nat.not_le, sx, q1, hsz, e2]
   refine ai0 ?_; simp; refine ah0 (c2) (by simp) ?_
   simp +contextual (maxSteps := 2000000) (disch := omega) [-Int.not_lt, -Int.not_le, -Nat.not_lt, -Nat.not_le, sx, q2, q3, hsz, e3]
   refine ai0 ?_; simp; refine ah0 (c3) (by simp) ?_
   by_cases hj0 : sB junk = []
   ·have hje : junk = ⟨⟨[]⟩⟩ := by rw [<- ne0 junk, hj0]
    subst hje
    simp +contextual (maxSteps := 2000000) (disch := omega) [-Int.not_lt, -Int.not_le, -Nat.not_lt, -Nat.not_le, sx]
    refine endR _ _ (Wk.refl _ _) [] (by simp) ?_
    simp +contextual (maxSteps := 2000000) (disch := omega) [-Int.not_lt, -Int.not_le, -Nat.not_lt, -Nat.not_le, sx]
   ·have hje : ¬ junk = ⟨⟨[]⟩⟩ := fun e => hj0 (by rw [e])
    have c4 := m30 (s := T ws.length ++ sB junk) (o50 hty hj0) (by simp; omega)
    simp +contextual (maxSteps := 2000000) (disch := omega) [-Int.not_lt, -Int.not_le, -Nat.not_lt, -Nat.not_le, sx, hje, hsz, e4]
    refine ai0 ?_; simp; refine ah0 (c4) (by simp) ?_
    simp +contextual (maxSteps := 2000000) (disch := omega) [-Int.not_lt, -Int.not_le, -Nat.not_lt, -Nat.not_le, sx]
    refine endR _ _ (Wk.refl _ _) [] (by simp) ?_
    simp +contextual (maxSteps := 2000000) (disch := omega) [-Int.not_lt, -Int.not_le, -Nat.not_lt, -Nat.not_le, sx]
end Go.Am
end

section
namespace Go.Proofs.YtnlggapedakocaaGreatDoor.showTypes
open Go.ChangeShapes Go.WideShapes Go.ChangeAt Go.RowKit
open Go.Am (imW vI vB vS nu0)
set_option maxRecDepth 100000
def T8 (t : TypeId) : Prop := t = 3 \/ t = 50 \/ t = 9 \/ t = 4
theorem flat8 : ∀ t, T8 t -> Go.Am.pa0 Tryz.prog T8 t := by
 intro t h
 rcases h with rfl | rfl | rfl | rfl <;> unfold Go.Am.pa0
 ·rw [Tryz.underlying3]; trivial
 ·rw [Tryz.underlying50]; exact ⟨by simp [T8], by rw [Go.Am.c4]; decide⟩
 ·rw [Tryz.underlying9]; trivial
 ·rw [Tryz.underlying4]; trivial
theorem args8 : ∀ t ∈ Tryz.f6.params.toList, T8 t := by
 rw [Tryz.params6]; intro t ht; simp at ht; rcases ht with rfl | rfl | rfl <;> simp [T8]
theorem contract (H : Type) (enc : TypeId × Value -> H) (W : World) (base : Nat) (args : Array Value) (ds gs : List (DataW H)) (before : List MemPlace)
  (hval : ∀ (j : Nat) t v, Tryz.f6.params[j]? = some t -> args[j]? = some v -> Value.okWide Tryz.prog W .any base t v)
  (hW : DataW.Whole enc Tryz.prog Tryz.f6.params.toList Rows.showTypesSpec.vars false W args.toList ds gs before) (hL : laidMetH Tryz.prog Rows.showTypesRow.laid W) (hk : Rows.uptoSmall H (ds ++ gs) = true) :
  Calls Tryz.prog 6 args W fun e W' => ∃ v, e = .returned v /\ Rows.showTypesSpec.post enc Tryz.prog Tryz.f6 false true false false W args v W' := by
 have hW' := hW
 obtain ⟨p, q, hA0, hV, rfl, hfz, hnd⟩ := hW
 have hA : DataW.TrodAll enc Tryz.prog W 0 (fun _ => true) true Tryz.f6.params.toList args.toList ds p := hA0
 rw [Tryz.params6] at hA hval
 obtain ⟨a0, vs0, d0, ds0, p0, q0, hargs, rfl, rfl, h0, r0⟩ := trodAll_cons hA
 obtain ⟨a1, vs1, d1, ds1, p1, q1, rfl, rfl, rfl, h1, r1⟩ := trodAll_cons r0
 obtain ⟨a2, vs2, d2, ds2, p2, q2, rfl, rfl, rfl, h2, r2⟩ := trodAll_cons r1
 obtain ⟨rfl, rfl, rfl⟩ := trodAll_nil r2
 obtain rfl : args = #[a0, a1, a2] := by cases args; simp_all
 obtain ⟨rfl, rfl⟩ := trodVars_none hV
 have hbk : Rows.uptoBulkAll ([d0, d1, d2] ++ []) <= 1048576 := of_decide_eq_true hk
 simp only [List.append_nil, Rows.uptoBulkAll] at hbk
 obtain ⟨k, rfl⟩ := okWide_int Tryz.underlying3 (hval 0 3 a0 rfl rfl)
 obtain ⟨sa, sl, sc, rfl⟩ := okWide_slice Tryz.underlying50 (hval 1 50 a1 rfl rfl)
 obtain ⟨s, rfl⟩ := okWide_string Tryz.underlying9 (hval 2 9 a2 rfl rfl)
 obtain ⟨n1, t1⟩ := h1
 obtain ⟨ws, v1, e1, hR1, hlen⟩ := Go.Am.rd_bools t1
 have e1' : v1 = .slice sa sl sc := by simpa [Value.cells] using e1.symm
 subst e1'
 have hret := Go.Am.lI0 k ws s (by simp only at hlen; omega)
 have hcalled := hret (imW W) Go.Am.Mu.bot #[.int .i64 k, .slice sa sl sc, .string s] W
  ⟨rfl, fun j u hj => by
   match j, hj with
   | 0, hj => injection hj with hj; subst hj; exact .c _
   | 1, hj => injection hj with hj; subst hj; exact hR1
   | 2, hj => injection hj with hj; subst hj; exact .c _
   | j + 3, hj => simp at hj⟩ (Go.Am.wd_imW (table hL))
 obtain ⟨fn, c, k1, k2, k3, _⟩ := Go.Am.dH0.ex
 have hrun : (callFunc 6 #[.int .i64 k, .slice sa sl sc, .string s]).run Tryz.prog W = .ok (.enter 6 #[.int .i64 k, .slice sa sl sc, .string s]) W := by
  have k2' : ¬ fn.name = "runtime.NumGoroutine" := by simpa using k2
  simp [callFunc, k1, k2', k3]
 unfold Go.Am.eH0 at hcalled
 rw [hrun] at hcalled
 refine Calls.mono hcalled ?_
 rintro e W' ⟨r, H', μ', rfl, ⟨x, rfl, hx⟩, hNj, hWd, _, _⟩
 obtain rfl := hx.bw0
 have hkeep : ∀ b, b < W.heap.size -> W'.heap[b]? = W.heap[b]? := fun b hb => hNj.keep b hb (by simp [Go.Am.Owns, Go.Am.hpE])
 refine ⟨_, rfl, _, _, _, [], p0 ++ (p1 ++ (p2 ++ [])), [], hW', ?_, ?_, rfl, ?_, fun h => by cases h⟩
 ·exact trodAll_cons_mk (shut_bool Tryz.underlying4 _) trodAll_mk0
 ·exact Go.Am.kC0 flat8 hkeep args8 hA0 fun p hp => by
   have := hW'.lt p (by simpa using hp)
   simpa using this
 ·refine ⟨hNj.os, hNj.output, fun i hi => ?_⟩
  rw [hkeep i hi]
  split
  ·rename_i e1 e2
   rw [e1] at e2
   injection e2 with e2
   injection e2 with e3 e4 e5
   subst e3 e4 e5
   exact ⟨rfl, rfl, rfl, fun _ _ => rfl⟩
  ·rename_i e1 e2
   rw [e1] at e2
   injection e2 with e2
   injection e2 with e3 e4
   exact .inr ⟨e3.symm, e4.symm⟩
  ·rfl
end Go.Proofs.YtnlggapedakocaaGreatDoor.showTypes
end

section
namespace Go.Proofs.YtnlggapedakocaaGreatDoor.showTypes
open Go.ChangeShapes Go.WideShapes Go.ChangeAt Go.RowKit
set_option maxRecDepth 100000
def cellsP (d : DataW Unit) : List Value := match d with | .lit (.int k n) => [Value.int k n] | .agg ps => ps.map fun d => (match d with | .lit (.int k n) => Value.int k n | _ => Value.bool false) | _ => []
def cellsD : DataW Unit -> Array Value
 | .agg ps => (ps.flatMap cellsP).toArray
 | _ => #[]
def lay (o : Obj) (d : DataW Unit) : Obj := match o with | .cells _ t frozen => .cells (cellsD d) t frozen | o => o
noncomputable def lg0 (os : Os) : World :=
 { World.holding Tryz.prog os ⟨#[], #[], []⟩ with heap := (((((World.holding Tryz.prog os ⟨#[], #[], []⟩).heap.modify 0 fun o => lay o Rows.laid_internal_strconv_uint64pow10).modify 2 fun o => lay o Rows.laid_math_bits_deBruijn32tab).modify 3 fun o => lay o Rows.laid_math_bits_deBruijn64tab).modify 4 fun o => lay o Rows.laid_unicode_utf8_first).modify 5 fun o => lay o Rows.laid_unicode_utf8_acceptRanges }
abbrev wargs : Array Value := #[.int .i64 0, .slice none 0 0, .string ⟨#[]⟩]
theorem laid_met (os : Os) : laidMet Tryz.prog Rows.showTypesRow.laid ((lg0 os).forCall (fun _ _ => 0) ⟨#[], wargs, []⟩).memory :=
 laidMet_of_run' 8 (by kernel_rfl) (by kernel_rfl)
theorem reads (os : Os) {H : Type} (enc : TypeId × Value -> H) : ∃ places, DataW.whole enc Tryz.prog ((lg0 os).forCall (fun _ _ => 0) ⟨#[], wargs, []⟩).memory Tryz.f6.params.toList Rows.showTypesSpec.vars false wargs.toList 8 =
  some ([.lit (.int .i64 0), .nil, .lit (.string [])], [], places) :=
 ⟨[], by kernel_rfl⟩
theorem pA0 (os : Os) (started : os.Started) (H : Type) (enc : TypeId × Value -> H) (F : Stop.Interp) :
  ReturnsInHanded {} Tryz.checked os 6 .any ((Rows.OpenSpec.upto Rows.showTypesSpec).preRow enc Tryz.prog Tryz.f6 Rows.showTypesUptoRow.domain false Rows.showTypesUptoRow.laid) (((Rows.OpenSpec.upto Rows.showTypesSpec).at F).post enc Tryz.prog Tryz.f6 false true false false) := by
 obtain ⟨places, hx⟩ := reads os enc
 refine returnsInHanded_of_row (C := Tryz.checked) (s := Rows.OpenSpec.upto Rows.showTypesSpec) own started (by kernel_rfl) Tryz.func6
  (witness_row_at (enc := enc) (C := Tryz.checked) false (lg0 os) wargs rfl (by kernel_rfl) (by kernel_rfl) (by kernel_rfl)
   (OpenSpec.preRow_of_cond 8 hx (by kernel_rfl) (fun k hk => by cases hk; kernel_rfl) (by kernel_rfl) (laid_met os))) ?_
 intro W base args ds gs before hval hW _ hcond _ hL _ _
 exact contract H enc W base args ds gs before hval hW hL (hcond _ rfl)
theorem saidUpto : Rows.ShowTypesUptoSaid :=
 OpenClaim.holds_of_cond 6 Tryz.f6 rfl rfl rfl rfl rfl rfl rfl ⟨rfl, rfl, rfl, rfl, rfl⟩ rfl rfl rfl rfl rfl (by kernel_rfl) Tryz.func6 (by kernel_rfl)
  (of_decide_eq_true (by kernel_rfl)) (by unfold Func.isWrapper; first | (rw [if_pos (by decide +kernel)]; kernel_rfl) | (rw [if_neg (by decide +kernel)]; exact ⟨rfl, rfl⟩))
  (fun os started H enc _ F => by rw [OpenClaim.pre_eq_preRow]; exact pA0 os started H enc F)
theorem plain (f : FuncId) (fn : Func) (hf : Tryz.pinned.checked.prog.funcNamed "quern/quernlaw08.ShowTypes" = some f) (hfn : Tryz.pinned.checked.prog.funcs[f]? = some fn) :
  true = Tryz.pinned.checked.prog.looks [] /\ ∀ (j : Nat) t, fn.params[j]? = some t -> Tryz.pinned.checked.prog.wantsStandIn t = false := by
 obtain rfl : f = 6 := Option.some.inj ((show Tryz.prog.funcNamed "quern/quernlaw08.ShowTypes" = some 6 by kernel_rfl).symm.trans hf) |>.symm
 obtain rfl : fn = Tryz.f6 := (Option.some.inj (Tryz.func6.symm.trans hfn)).symm
 refine ⟨by kernel_rfl, fun j t ht => ?_⟩
 rw [Tryz.params6] at ht
 have hm := Array.mem_of_getElem? ht
 simp at hm
 rcases hm with rfl | rfl | rfl
 ·exact (show Tryz.prog.wantsStandIn 3 = false by kernel_rfl)
 ·exact (show Tryz.prog.wantsStandIn 50 = false by kernel_rfl)
 ·exact (show Tryz.prog.wantsStandIn 9 = false by kernel_rfl)
theorem cardUpto : Rows.ShowTypesUptoCardSaid :=
 Claim7.holds_tied_plain_at .later [] _ _ _ _ saidUpto (fun _ h => by cases h) (by kernel_rfl) (fun _ h => by cases h) showTypesUpto_row_tie rfl ⟨rfl, rfl⟩ (by kernel_rfl) rfl plain (by kernel_rfl)
end Go.Proofs.YtnlggapedakocaaGreatDoor.showTypes
end
