/- VmSound of the given program, part 5 of 6 of the proof: for all arguments within the bound the law answers true, and each argument reads behind the call as before. Conditions: those of the given card. -/
import Derived.Test.YtnkfojenfnbchaaGreatDoorZ4
import Derived.Lib.LaidTab
set_option linter.all false
set_option linter.unusedVariables false
set_option linter.unusedSimpArgs false
set_option linter.unnecessarySimpa false
section
namespace Go.Am
set_option maxRecDepth 100000
attribute [local irreducible] vc vcIs vcI vcOp vcD vcDp vcDR vcT vcAR stepD stepDp panD neG ne pv J callS callN loopS lookK evK evsK nthK objK boxK rowK boolK intK strK aggK fnK ifcK cellsK cellsLK ldK ldaK iaK srcK stK appK appD isnlD pvK callJ callJD callA
def Ins.nexts (i : Ins) (p : Int) : List Int := if i.op = 10 then [] else if i.op = 7 then [i.a] else if i.op = 8 then [p + 1, i.a] else [p + 1]
def Mdl.gr (m : Mdl) (f : Fnc) : Gr := ⟨f.code.length, fun p => m.pops (f.code.getD p default), fun p => (f.code.getD p default).pushes, f.stack, fun p => (f.code.getD p default).nexts p⟩
abbrev vInts (l : List Int) : List (List V) := l.map fun x => [vI x]
theorem fill_step (n i : Nat) (a b : List V) (h : i < n) : (List.replicate i a ++ List.replicate (n - i) b).set i a = List.replicate (i + 1) a ++ List.replicate (n - (i + 1)) b := by
  rw [List.set_append_right _ _ (by simp)]
  obtain ⟨k, hk⟩ : ∃ k, n - i = k + 1 := ⟨n - i - 1, by omega⟩
  have : n - (i + 1) = k := by omega
  rw [hk, this]
  simp [List.replicate_succ']
  rw [← List.replicate_succ', List.replicate_succ]
  rfl
set_option maxHeartbeats 4000000 in
theorem code_heights_spec (m : Mdl) (n : Nat) (hn : n < m.funcs.length) (h0 : 0 < m.funcs[n].code.length) (h1 : m.funcs[n].code.length ≤ 16384) (hc0 : 0 ≤ m.funcs[n].stack) (hc1 : m.funcs[n].stack ≤ 256)
    (hp : ∀ i ∈ m.funcs[n].code, 0 ≤ m.pops i ∧ m.pops i ≤ 8 ∧ (i.op = 9 → 0 ≤ i.a ∧ i.a.toNat < m.funcs.length) ∧ (i.op = 7 ∨ i.op = 8 → 0 ≤ i.a)) :
    Ret prog f_code_heights [m.V, vI n] (vB (m.gr m.funcs[n]).hB) := by
  refine J_pure fn_code_heights (by simp) ?_
  simp (config := { contextual := true, maxSteps := 2000000 }) (disch := omega) [-Int.not_lt, -Int.not_le, -Nat.not_lt, -Nat.not_le, elemK_get, wrapI, leT, leF, ltT, ltF, leTn, leFn, ltTn, ltFn, cd_code_heights]
  generalize hf : m.funcs[n] = f at *
  have hg : (m.gr f).len = f.code.length := rfl
  have hpu : ∀ p, 0 ≤ (m.gr f).pushes p := fun p => by simp only [Mdl.gr, Ins.pushes]; split <;> omega
  refine loopS_for f.code.length (fun i => [(29, vI i), (28, vI f.code.length), (6, .arr (.l 25 0) 0 f.code.length), (7, .arr (.l 26 0) 0 1), (2, .bp (.l 2 0) 0), (5, .bp (.l 5 0) 0)])
    (fun i => [(.l 25 0, .row 3 1 true (List.replicate i [vI (-1)] ++ List.replicate (f.code.length - i) [vI 0])), (.l 26 0, .row 3 1 true [[vI 0]]), (.l 2 0, .box [.lst (m.consts.map Val.cells), .lst (m.funcs.map Fnc.cells)]), (.l 5 0, .box f.cells)])
    (Wk.subs (by simp) (by simp)) ?_
  intro i hi
  simp (config := { contextual := true, maxSteps := 2000000 }) (disch := omega) [-Int.not_lt, -Int.not_le, -Nat.not_lt, -Nat.not_le, elemK_get, wrapI, leT, leF, ltT, ltF, leTn, leFn, ltTn, ltFn]
  refine ⟨fun hlt => ?_, fun hge => ?_⟩
  · refine elemK_of (e := [vI 0]) (by rw [List.getElem?_append_right (by simp)]; simp [List.getElem?_replicate]; omega) ?_
    simp (config := { contextual := true, maxSteps := 2000000 }) (disch := omega) [-Int.not_lt, -Int.not_le, -Nat.not_lt, -Nat.not_le, elemK_get, wrapI, leT, leF, ltT, ltF, leTn, leFn, ltTn, ltFn]
    rw [fill_step _ _ _ _ hlt]
    exact .of hlt (Wk.subs (by simp) (by simp))
  have hi : i = f.code.length := by omega
  subst hi
  refine elemK_of (e := [vI (-1)]) (by simp [List.getElem?_replicate, h0]) ?_
  simp (config := { contextual := true, maxSteps := 2000000 }) (disch := omega) [-Int.not_lt, -Int.not_le, -Nat.not_lt, -Nat.not_le, elemK_get, wrapI, leT, leF, ltT, ltF, leTn, leFn, ltTn, ltFn]
  refine loopS_while (fun x : List Int × List Int × List Int => 2 * Gr.unk x.1 + x.2.1.length)
    (fun x => [(6, .arr (.l 25 0) 0 x.1.length), (7, .arr (.l 999 0) 0 x.2.1.length), (2, .bp (.l 2 0) 0), (5, .bp (.l 5 0) 0)])
    (fun x => [(.l 25 0, .row 3 1 true (vInts x.1)), (.l 999 0, .row 3 1 true (vInts x.2.1 ++ vInts x.2.2)), (.l 2 0, .box [.lst (m.consts.map Val.cells), .lst (m.funcs.map Fnc.cells)]), (.l 5 0, .box f.cells)])
    (fun x => Gr.HI (m.gr f) x.1 x.2.1 ∧ 2 * Gr.unk x.1 + x.2.1.length ≤ 2 * f.code.length + 1) ((List.replicate f.code.length (-1)).set 0 0, [0], [])
    ⟨Gr.HI.start h0 hc0, by have := List.countP_le_length (p := fun x : Int => decide (x < 0)) (l := (List.replicate f.code.length (-1)).set 0 0); simp at this; simp [Gr.unk]; omega⟩
    (Wk.rens (.l 26 0) (.l 999 0) rfl (by simp [vInts, List.map_set]) (by simp [renF]) (by simp [renF, unren])) ?_
  rintro ⟨known, work, junk⟩ ⟨hI, hm⟩
  rcases work.eq_nil_or_concat with rfl | ⟨work, x, rfl⟩
  · simp (config := { contextual := true, maxSteps := 2000000 }) (disch := omega) [-Int.not_lt, -Int.not_le, -Nat.not_lt, -Nat.not_le, elemK_get, wrapI, leT, leF, ltT, ltF, leTn, leFn, ltTn, ltFn, hI.end]
  simp only [List.concat_eq_append] at hI hm ⊢
  obtain ⟨hx0, hxl, hxk⟩ := hI.last
  have hlen := hI.len
  simp only [List.length_append, List.length_cons, List.length_nil] at hm
  rw [hg] at hlen hxl
  simp (config := { contextual := true, maxSteps := 2000000 }) (disch := omega) [-Int.not_lt, -Int.not_le, -Nat.not_lt, -Nat.not_le, elemK_get, wrapI, leT, leF, ltT, ltF, leTn, leFn, ltTn, ltFn]
  refine elemK_of (e := [vI x]) (by simp) ?_
  simp (config := { contextual := true, maxSteps := 2000000 }) (disch := omega) [-Int.not_lt, -Int.not_le, -Nat.not_lt, -Nat.not_le, elemK_get, wrapI, leT, leF, ltT, ltF, leTn, leFn, ltTn, ltFn]
  have hgd : f.code.getD x.toNat default = f.code[x.toNat] := by simp [hxl]
  have hgp : (m.gr f).pops x.toNat = m.pops f.code[x.toNat] := by simp [Mdl.gr, hxl]
  have hgu : (m.gr f).pushes x.toNat = f.code[x.toNat].pushes := by simp [Mdl.gr, hxl]
  have hgn : (m.gr f).nexts x.toNat = f.code[x.toNat].nexts x := by simp [Mdl.gr, hxl]; rw [Int.max_eq_left hx0]
  obtain ⟨p0, p1, p9, p7⟩ := hp _ (List.getElem_mem hxl)
  have hu : 0 ≤ f.code[x.toNat].pushes ∧ f.code[x.toNat].pushes ≤ 1 := by unfold Ins.pushes; split <;> omega
  generalize hi : f.code[x.toNat] = i at *
  have hkx : x.toNat < known.length := by omega
  have hk : Gr.kn known x.toNat = known[x.toNat] := Gr.kn_lt hkx
  have hcapx := hI.cap x.toNat (by rw [hg]; omega)
  have hout : (m.gr f).out (Gr.kn known x.toNat) x.toNat = known[x.toNat] - m.pops i + i.pushes := by unfold Gr.out; rw [hk, hgp, hgu]
  have hcapf : (m.gr f).cap = f.stack := rfl
  have hB1 := fun h => hI.bad (.inl h)
  have hB2 := fun h => hI.bad (.inr h)
  have hJ := hI.begin
  rw [hout, hcapf] at hB2 hJ
  rw [hk] at hB1 hJ hxk hcapx
  rw [hgp] at hB1 hJ
  rw [hcapf] at hcapx
  generalize hkv : known[x.toNat] = kx at *
  have hkv2 : known[x.toNat]? = some kx := by rw [List.getElem?_eq_getElem hkx, hkv]
  refine callS_go ?_; simp; refine callA_of (code_effect_spec m i p9) (by simp) ?_
  simp (config := { contextual := true, maxSteps := 2000000 }) (disch := omega) [-Int.not_lt, -Int.not_le, -Nat.not_lt, -Nat.not_le, elemK_get, wrapI, leT, leF, ltT, ltF, leTn, leFn, ltTn, ltFn]
  have hkv3 : ∀ h : x.toNat < known.length, known[x.toNat]'h = kx := fun h => by rw [List.getElem?_eq_getElem h] at hkv2; injection hkv2
  simp only [hkv3]
  refine ⟨hB1, fun ha => ⟨hB2, fun hb => ⟨fun e10 => ?_, fun n10 => ⟨fun e7 => ?_, fun n7 => ⟨fun e8 => ?_, fun n8 => ?_⟩⟩⟩⟩⟩
  · have hnx : i.nexts x = [] := by simp [Ins.nexts, e10]
    rw [hnx] at hgn
    refine loopS_for 0 (fun _ => [(103, vI 0), (102, vI 0), (6, .arr (.l 25 0) 0 known.length), (7, .arr (.l 999 0) 0 work.length), (2, .bp (.l 2 0) 0), (5, .bp (.l 5 0) 0)])
      (fun _ => [(.l 25 0, .row 3 1 true (vInts known)), (.l 999 0, .row 3 1 true (vInts work ++ vInts (x :: junk))), (.l 2 0, .box [.lst (m.consts.map Val.cells), .lst (m.funcs.map Fnc.cells)]), (.l 5 0, .box f.cells)]) (Wk.subs (by simp) (by simp)) ?_
    intro j hj
    simp (config := { contextual := true, maxSteps := 2000000 }) (disch := omega) [-Int.not_lt, -Int.not_le, -Nat.not_lt, -Nat.not_le, elemK_get, wrapI, leT, leF, ltT, ltF, leTn, leFn, ltTn, ltFn]
    refine .of (known, work, x :: junk) ⟨(hJ (by omega) (by omega)).end (by rw [hgn]; simp), ?_⟩ ?_ (Wk.subs (by simp) (by simp))
    · simp only; omega
    · simp only [List.length_append, List.length_cons, List.length_nil]; omega
  · have hnx : i.nexts x = [i.a] := by simp [Ins.nexts, e7]
    rw [hnx] at hgn
    refine loopS_while (fun y : List Int × List Int × List Int × Nat => 1 - y.2.2.2)
      (fun y => [(103, vI y.2.2.2), (102, vI 1), (101, .arr (.l 998 0) 0 1), (13, vI (kx - m.pops i + i.pushes)), (6, .arr (.l 25 0) 0 y.1.length), (7, .arr (.l 999 0) 0 y.2.1.length), (2, .bp (.l 2 0) 0), (5, .bp (.l 5 0) 0)])
      (fun y => [(.l 998 0, .row 3 1 true (vInts [i.a])), (.l 25 0, .row 3 1 true (vInts y.1)), (.l 999 0, .row 3 1 true (vInts y.2.1 ++ vInts y.2.2.1)), (.l 2 0, .box [.lst (m.consts.map Val.cells), .lst (m.funcs.map Fnc.cells)]), (.l 5 0, .box f.cells)])
      (fun y => (m.gr f).HJ x.toNat y.2.2.2 y.1 y.2.1 ∧ y.1[x.toNat]? = some kx ∧ 2 * Gr.unk y.1 + y.2.1.length ≤ 2 * Gr.unk known + work.length) (known, work, x :: junk, 0) ⟨hJ (by omega) (by omega), hkv2, Nat.le_refl _⟩
      (Wk.rens (.l 93 0) (.l 998 0) rfl (by simp [vInts]) (by simp [renF]) (by simp [renF, unren])) ?_
    rintro ⟨kn', wk', jk', j⟩ ⟨hj, hy, hm'⟩
    have hjl := hj.len
    rw [hg] at hjl
    simp only at hy hm' hj hjl
    simp (config := { contextual := true, maxSteps := 2000000 }) (disch := omega) [-Int.not_lt, -Int.not_le, -Nat.not_lt, -Nat.not_le, elemK_get, wrapI, leT, leF, ltT, ltF, leTn, leFn, ltTn, ltFn]
    refine ⟨fun hlt => ?_, fun hge => ?_⟩
    · have hjn : j < ((m.gr f).nexts x.toNat).length := by rw [hgn]; simp; omega
      obtain ⟨q, hq, hq0⟩ : ∃ q, (([i.a] : List Int).map fun x => [vI x])[j]? = some [vI q] ∧ ((m.gr f).nexts x.toNat)[j]? = some q ∧ 0 ≤ q := by
        rw [hgn]
        obtain rfl : j = 0 := by omega
        exact ⟨i.a, rfl, rfl, p7 (.inl e7)⟩
      obtain ⟨hq1, hq2⟩ := hq0
      have hqj : ((m.gr f).nexts x.toNat)[j] = q := by rw [List.getElem?_eq_getElem hjn] at hq1; injection hq1
      have hkn : Gr.kn kn' x.toNat = kx := by simp [Gr.kn, hy]
      have ho : (m.gr f).out (Gr.kn kn' x.toNat) x.toNat = kx - m.pops i + i.pushes := by unfold Gr.out; rw [hkn, hgp, hgu]
      have hbad := hj.bad hjn
      have hsame := hj.same hjn
      have hnew := hj.new hjn (by rw [hqj]; exact hq2) (fun p _ => hpu p)
      rw [hqj, ho, hg] at hbad hsame hnew
      refine elemK_of hq ?_
      simp (config := { contextual := true, maxSteps := 2000000 }) (disch := omega) [-Int.not_lt, -Int.not_le, -Nat.not_lt, -Nat.not_le, elemK_get, wrapI, leT, leF, ltT, ltF, leTn, leFn, ltTn, ltFn]
      refine ⟨fun h => hbad (.inl (by omega)), fun h => ?_⟩
      have hqk : q.toNat < kn'.length := by omega
      have hkq : Gr.kn kn' q.toNat = kn'[q.toNat] := Gr.kn_lt hqk
      rw [hkq] at hbad hsame hnew
      have hr1 : List.take wk'.length (vInts wk' ++ vInts jk') ++ [[V.c (Value.int IntKind.i64 q)]] = vInts (wk' ++ [q]) ++ vInts [] := by
        rw [List.take_append_of_le_length (by simp), List.take_of_length_le (by simp)]; simp
      have hr2 : (vInts kn').set q.toNat [V.c (Value.int IntKind.i64 (kx - m.pops i + i.pushes))] = vInts (kn'.set q.toNat (kx - m.pops i + i.pushes)) := by simp [vInts, List.map_set]
      rw [hr1, hr2]
      refine ⟨fun hge0 => ⟨fun hne => hbad (.inr ⟨hge0, hne⟩), fun heq => ?_⟩, fun hlt0 => ?_⟩
      · exact .of (kn', wk', jk', j + 1) ⟨hsame (by omega) heq, hy, hm'⟩ (by simp only; omega) (Wk.subs (by simp) (by simp))
      · have hun := Gr.unk_set (x := kx - m.pops i + i.pushes) hqk (by omega) (by omega)
        have hne : q.toNat ≠ x.toNat := fun e => by
          have h2 : kn'[q.toNat]? = some kx := by rw [e]; exact hy
          rw [List.getElem?_eq_getElem hqk] at h2
          injection h2
          omega
        refine .of (kn'.set q.toNat (kx - m.pops i + i.pushes), wk' ++ [q], [], j + 1) ⟨hnew (by omega) (by omega), by rw [List.getElem?_set_ne hne]; exact hy, by simp only [List.length_append, List.length_cons, List.length_nil]; omega⟩ (by simp only; omega)
          (Wk.rens (.l 141 0) (.l 999 0) rfl (by simp) (by simp [renF]) (by simp [renF, unren]))
    · refine .of (kn', wk', jk') ⟨hj.end (by rw [hgn]; simp; omega), ?_⟩ ?_ (Wk.subs (by simp) (by simp))
      · simp only; omega
      · simp only [List.length_append, List.length_cons, List.length_nil]; omega
  · have hnx : i.nexts x = [x + 1, i.a] := by simp [Ins.nexts, e8]
    rw [hnx] at hgn
    refine loopS_while (fun y : List Int × List Int × List Int × Nat => 2 - y.2.2.2)
      (fun y => [(103, vI y.2.2.2), (102, vI 2), (101, .arr (.l 998 0) 0 2), (13, vI (kx - m.pops i + i.pushes)), (6, .arr (.l 25 0) 0 y.1.length), (7, .arr (.l 999 0) 0 y.2.1.length), (2, .bp (.l 2 0) 0), (5, .bp (.l 5 0) 0)])
      (fun y => [(.l 998 0, .row 3 1 true (vInts [x + 1, i.a])), (.l 25 0, .row 3 1 true (vInts y.1)), (.l 999 0, .row 3 1 true (vInts y.2.1 ++ vInts y.2.2.1)), (.l 2 0, .box [.lst (m.consts.map Val.cells), .lst (m.funcs.map Fnc.cells)]), (.l 5 0, .box f.cells)])
      (fun y => (m.gr f).HJ x.toNat y.2.2.2 y.1 y.2.1 ∧ y.1[x.toNat]? = some kx ∧ 2 * Gr.unk y.1 + y.2.1.length ≤ 2 * Gr.unk known + work.length) (known, work, x :: junk, 0) ⟨hJ (by omega) (by omega), hkv2, Nat.le_refl _⟩
      (Wk.rens (.l 100 0) (.l 998 0) rfl (by simp [vInts]) (by simp [renF]) (by simp [renF, unren])) ?_
    rintro ⟨kn', wk', jk', j⟩ ⟨hj, hy, hm'⟩
    have hjl := hj.len
    rw [hg] at hjl
    simp only at hy hm' hj hjl
    simp (config := { contextual := true, maxSteps := 2000000 }) (disch := omega) [-Int.not_lt, -Int.not_le, -Nat.not_lt, -Nat.not_le, elemK_get, wrapI, leT, leF, ltT, ltF, leTn, leFn, ltTn, ltFn]
    refine ⟨fun hlt => ?_, fun hge => ?_⟩
    · have hjn : j < ((m.gr f).nexts x.toNat).length := by rw [hgn]; simp; omega
      obtain ⟨q, hq, hq0⟩ : ∃ q, (([x + 1, i.a] : List Int).map fun x => [vI x])[j]? = some [vI q] ∧ ((m.gr f).nexts x.toNat)[j]? = some q ∧ 0 ≤ q := by
        rw [hgn]
        obtain rfl | rfl : j = 0 ∨ j = 1 := by omega
        · exact ⟨x + 1, rfl, rfl, by omega⟩
        · exact ⟨i.a, rfl, rfl, p7 (.inr e8)⟩
      obtain ⟨hq1, hq2⟩ := hq0
      have hqj : ((m.gr f).nexts x.toNat)[j] = q := by rw [List.getElem?_eq_getElem hjn] at hq1; injection hq1
      have hkn : Gr.kn kn' x.toNat = kx := by simp [Gr.kn, hy]
      have ho : (m.gr f).out (Gr.kn kn' x.toNat) x.toNat = kx - m.pops i + i.pushes := by unfold Gr.out; rw [hkn, hgp, hgu]
      have hbad := hj.bad hjn
      have hsame := hj.same hjn
      have hnew := hj.new hjn (by rw [hqj]; exact hq2) (fun p _ => hpu p)
      rw [hqj, ho, hg] at hbad hsame hnew
      refine elemK_of hq ?_
      simp (config := { contextual := true, maxSteps := 2000000 }) (disch := omega) [-Int.not_lt, -Int.not_le, -Nat.not_lt, -Nat.not_le, elemK_get, wrapI, leT, leF, ltT, ltF, leTn, leFn, ltTn, ltFn]
      refine ⟨fun h => hbad (.inl (by omega)), fun h => ?_⟩
      have hqk : q.toNat < kn'.length := by omega
      have hkq : Gr.kn kn' q.toNat = kn'[q.toNat] := Gr.kn_lt hqk
      rw [hkq] at hbad hsame hnew
      have hr1 : List.take wk'.length (vInts wk' ++ vInts jk') ++ [[V.c (Value.int IntKind.i64 q)]] = vInts (wk' ++ [q]) ++ vInts [] := by
        rw [List.take_append_of_le_length (by simp), List.take_of_length_le (by simp)]; simp
      have hr2 : (vInts kn').set q.toNat [V.c (Value.int IntKind.i64 (kx - m.pops i + i.pushes))] = vInts (kn'.set q.toNat (kx - m.pops i + i.pushes)) := by simp [vInts, List.map_set]
      rw [hr1, hr2]
      refine ⟨fun hge0 => ⟨fun hne => hbad (.inr ⟨hge0, hne⟩), fun heq => ?_⟩, fun hlt0 => ?_⟩
      · exact .of (kn', wk', jk', j + 1) ⟨hsame (by omega) heq, hy, hm'⟩ (by simp only; omega) (Wk.subs (by simp) (by simp))
      · have hun := Gr.unk_set (x := kx - m.pops i + i.pushes) hqk (by omega) (by omega)
        have hne : q.toNat ≠ x.toNat := fun e => by
          have h2 : kn'[q.toNat]? = some kx := by rw [e]; exact hy
          rw [List.getElem?_eq_getElem hqk] at h2
          injection h2
          omega
        refine .of (kn'.set q.toNat (kx - m.pops i + i.pushes), wk' ++ [q], [], j + 1) ⟨hnew (by omega) (by omega), by rw [List.getElem?_set_ne hne]; exact hy, by simp only [List.length_append, List.length_cons, List.length_nil]; omega⟩ (by simp only; omega)
          (Wk.rens (.l 141 0) (.l 999 0) rfl (by simp) (by simp [renF]) (by simp [renF, unren]))
    · refine .of (kn', wk', jk') ⟨hj.end (by rw [hgn]; simp; omega), ?_⟩ ?_ (Wk.subs (by simp) (by simp))
      · simp only; omega
      · simp only [List.length_append, List.length_cons, List.length_nil]; omega
  · have hnx : i.nexts x = [x + 1] := by simp [Ins.nexts, n10, n7, n8]
    rw [hnx] at hgn
    refine loopS_while (fun y : List Int × List Int × List Int × Nat => 1 - y.2.2.2)
      (fun y => [(103, vI y.2.2.2), (102, vI 1), (101, .arr (.l 998 0) 0 1), (13, vI (kx - m.pops i + i.pushes)), (6, .arr (.l 25 0) 0 y.1.length), (7, .arr (.l 999 0) 0 y.2.1.length), (2, .bp (.l 2 0) 0), (5, .bp (.l 5 0) 0)])
      (fun y => [(.l 998 0, .row 3 1 true (vInts [x + 1])), (.l 25 0, .row 3 1 true (vInts y.1)), (.l 999 0, .row 3 1 true (vInts y.2.1 ++ vInts y.2.2.1)), (.l 2 0, .box [.lst (m.consts.map Val.cells), .lst (m.funcs.map Fnc.cells)]), (.l 5 0, .box f.cells)])
      (fun y => (m.gr f).HJ x.toNat y.2.2.2 y.1 y.2.1 ∧ y.1[x.toNat]? = some kx ∧ 2 * Gr.unk y.1 + y.2.1.length ≤ 2 * Gr.unk known + work.length) (known, work, x :: junk, 0) ⟨hJ (by omega) (by omega), hkv2, Nat.le_refl _⟩
      (Wk.rens (.l 86 0) (.l 998 0) rfl (by simp [vInts]) (by simp [renF]) (by simp [renF, unren])) ?_
    rintro ⟨kn', wk', jk', j⟩ ⟨hj, hy, hm'⟩
    have hjl := hj.len
    rw [hg] at hjl
    simp only at hy hm' hj hjl
    simp (config := { contextual := true, maxSteps := 2000000 }) (disch := omega) [-Int.not_lt, -Int.not_le, -Nat.not_lt, -Nat.not_le, elemK_get, wrapI, leT, leF, ltT, ltF, leTn, leFn, ltTn, ltFn]
    refine ⟨fun hlt => ?_, fun hge => ?_⟩
    · have hjn : j < ((m.gr f).nexts x.toNat).length := by rw [hgn]; simp; omega
      obtain ⟨q, hq, hq0⟩ : ∃ q, (([x + 1] : List Int).map fun x => [vI x])[j]? = some [vI q] ∧ ((m.gr f).nexts x.toNat)[j]? = some q ∧ 0 ≤ q := by
        rw [hgn]
        obtain rfl : j = 0 := by omega
        exact ⟨x + 1, rfl, rfl, by omega⟩
      obtain ⟨hq1, hq2⟩ := hq0
      have hqj : ((m.gr f).nexts x.toNat)[j] = q := by rw [List.getElem?_eq_getElem hjn] at hq1; injection hq1
      have hkn : Gr.kn kn' x.toNat = kx := by simp [Gr.kn, hy]
      have ho : (m.gr f).out (Gr.kn kn' x.toNat) x.toNat = kx - m.pops i + i.pushes := by unfold Gr.out; rw [hkn, hgp, hgu]
      have hbad := hj.bad hjn
      have hsame := hj.same hjn
      have hnew := hj.new hjn (by rw [hqj]; exact hq2) (fun p _ => hpu p)
      rw [hqj, ho, hg] at hbad hsame hnew
      refine elemK_of hq ?_
      simp (config := { contextual := true, maxSteps := 2000000 }) (disch := omega) [-Int.not_lt, -Int.not_le, -Nat.not_lt, -Nat.not_le, elemK_get, wrapI, leT, leF, ltT, ltF, leTn, leFn, ltTn, ltFn]
      refine ⟨fun h => hbad (.inl (by omega)), fun h => ?_⟩
      have hqk : q.toNat < kn'.length := by omega
      have hkq : Gr.kn kn' q.toNat = kn'[q.toNat] := Gr.kn_lt hqk
      rw [hkq] at hbad hsame hnew
      have hr1 : List.take wk'.length (vInts wk' ++ vInts jk') ++ [[V.c (Value.int IntKind.i64 q)]] = vInts (wk' ++ [q]) ++ vInts [] := by
        rw [List.take_append_of_le_length (by simp), List.take_of_length_le (by simp)]; simp
      have hr2 : (vInts kn').set q.toNat [V.c (Value.int IntKind.i64 (kx - m.pops i + i.pushes))] = vInts (kn'.set q.toNat (kx - m.pops i + i.pushes)) := by simp [vInts, List.map_set]
      rw [hr1, hr2]
      refine ⟨fun hge0 => ⟨fun hne => hbad (.inr ⟨hge0, hne⟩), fun heq => ?_⟩, fun hlt0 => ?_⟩
      · exact .of (kn', wk', jk', j + 1) ⟨hsame (by omega) heq, hy, hm'⟩ (by simp only; omega) (Wk.subs (by simp) (by simp))
      · have hun := Gr.unk_set (x := kx - m.pops i + i.pushes) hqk (by omega) (by omega)
        have hne : q.toNat ≠ x.toNat := fun e => by
          have h2 : kn'[q.toNat]? = some kx := by rw [e]; exact hy
          rw [List.getElem?_eq_getElem hqk] at h2
          injection h2
          omega
        refine .of (kn'.set q.toNat (kx - m.pops i + i.pushes), wk' ++ [q], [], j + 1) ⟨hnew (by omega) (by omega), by rw [List.getElem?_set_ne hne]; exact hy, by simp only [List.length_append, List.length_cons, List.length_nil]; omega⟩ (by simp only; omega)
          (Wk.rens (.l 141 0) (.l 999 0) rfl (by simp) (by simp [renF]) (by simp [renF, unren]))
    · refine .of (kn', wk', jk') ⟨hj.end (by rw [hgn]; simp; omega), ?_⟩ ?_ (Wk.subs (by simp) (by simp))
      · simp only; omega
      · simp only [List.length_append, List.length_cons, List.length_nil]; omega
end Go.Am
end

section
namespace Go.Am
set_option maxRecDepth 100000
attribute [local irreducible] vc vcIs vcI vcOp vcD vcDp vcDR vcT vcAR stepD stepDp panD neG ne pv J callS callN loopS lookK evK evsK nthK objK boxK rowK boolK intK strK aggK fnK ifcK cellsK cellsLK ldK ldaK iaK srcK stK appK appD isnlD pvK callJ callJD callA
structure Fnc.bnd (m : Mdl) (f : Fnc) : Prop where
  p0 : 0 ≤ f.params
  p1 : f.params ≤ 8
  l0 : f.params ≤ f.locals
  l1 : f.locals ≤ 256
  z0 : 0 ≤ f.zero
  z1 : f.zero < m.consts.length
  s0 : 1 ≤ f.stack
  s1 : f.stack ≤ 256
  c0 : 1 ≤ f.code.length
  c1 : f.code.length ≤ 16384
structure Mdl.fnOk (m : Mdl) (states : Int) (n : Nat) (f : Fnc) : Prop where
  bnd : f.bnd m
  ins : ∀ i ∈ f.code, m.insOk states n f i = true
  hgt : (m.gr f).hB = true
structure Mdl.vOk (m : Mdl) (states : Int) : Prop where
  fl : m.funcs.length ≤ 32
  s0 : 0 ≤ states
  s1 : states ≤ 32
  cl : m.consts.length ≤ 16384
  ct : ∀ v ∈ m.consts, v.tyc ≠ []
  fn : ∀ (n : Nat) (h : n < m.funcs.length), m.fnOk states n m.funcs[n]
open Classical in
noncomputable def Mdl.ver (m : Mdl) (states : Int) : Int := if m.vOk states then 0 else 40
theorem Mdl.ver_ok {m : Mdl} {states : Int} (h : m.vOk states) : m.ver states = 0 := if_pos h
theorem Mdl.ver_bad {m : Mdl} {states : Int} (h : ¬ m.vOk states) : m.ver states = 40 := if_neg h
theorem pops_bnd {m : Mdl} {states : Int} {n : Nat} {f : Fnc} {i : Ins} (hn : n < m.funcs.length) (hi : m.insOk states n f i = true) (hf : ∀ (k : Nat) (h : k < m.funcs.length), k < n → m.funcs[k].bnd m) :
    0 ≤ m.pops i ∧ m.pops i ≤ 8 ∧ (i.op = 9 → 0 ≤ i.a ∧ i.a.toNat < m.funcs.length) ∧ (i.op = 7 ∨ i.op = 8 → 0 ≤ i.a) := by
  simp only [Mdl.insOk, Bool.and_eq_true, decide_eq_true_eq] at hi
  obtain ⟨⟨⟨h1, h2⟩, h3⟩, h4⟩ := hi
  by_cases h9 : i.op = 9
  · simp [Mdl.most, h9] at h3 h4
    have ha : i.a.toNat < m.funcs.length := by omega
    have hb := hf i.a.toNat ha (by omega)
    have := hb.p0
    have := hb.p1
    have hp : m.pops i = m.funcs[i.a.toNat].params := by simp [Mdl.pops, h9, ha]
    rw [hp]
    exact ⟨hb.p0, hb.p1, fun _ => ⟨h3, ha⟩, fun h => by omega⟩
  · refine ⟨?_, ?_, fun h => absurd h h9, fun h => ?_⟩
    · unfold Mdl.pops; (repeat' split) <;> omega
    · unfold Mdl.pops; (repeat' split) <;> omega
    · rcases h with h | h <;> simp [Mdl.most, h] at h3 <;> exact h3
def Mdl.CkI (m : Mdl) (i : Nat) : Prop := i ≤ m.consts.length ∧ ∀ (k : Nat) (h : k < m.consts.length), k < i → m.consts[k].tyc ≠ []
def Mdl.FkI (m : Mdl) (states : Int) (i : Nat) : Prop := i ≤ m.funcs.length ∧ ∀ (k : Nat) (h : k < m.funcs.length), k < i → m.fnOk states k m.funcs[k]
def Mdl.IkI (m : Mdl) (states : Int) (n : Nat) (f : Fnc) (i : Nat) : Prop := i ≤ f.code.length ∧ ∀ (k : Nat) (h : k < f.code.length), k < i → m.insOk states n f f.code[k] = true
set_option maxHeartbeats 2000000 in
theorem code_Verify_spec (m : Mdl) (states : Int) (hc : ∀ v ∈ m.consts, v.wt < 2 ^ 40) (hcl : m.consts.length < 2 ^ 40) (hfl : m.funcs.length < 2 ^ 40) (hf : ∀ f ∈ m.funcs, f.code.length < 2 ^ 40) :
    Ret prog f_code_Verify [m.V, vI states] (vI (m.ver states)) := by
  refine J_pure fn_code_Verify (by simp) ?_
  simp (config := { contextual := true, maxSteps := 2000000 }) (disch := omega) [-Int.not_lt, -Int.not_le, -Nat.not_lt, -Nat.not_le, elemK_get, wrapI, leT, leF, ltT, ltF, leTn, leFn, ltTn, ltFn, cd_code_Verify]
  refine ⟨fun h => (m.ver_bad fun hv => by have := hv.fl; omega).symm, fun h1 => ⟨fun h => (m.ver_bad fun hv => by have := hv.s0; omega).symm, fun h2 => ⟨fun h => (m.ver_bad fun hv => by have := hv.s1; omega).symm, fun h3 => ⟨fun h => (m.ver_bad fun hv => by have := hv.cl; omega).symm, fun h4 => ?_⟩⟩⟩⟩
  refine loopS_while (fun i : Nat => m.consts.length - i) (fun i => [(32, vI i), (31, vI m.consts.length), (30, .lst (m.consts.map Val.cells)), (2, .bp (.l 2 0) 0), (1, vI states)])
    (fun _ => [(.l 2 0, .box [.lst (m.consts.map Val.cells), .lst (m.funcs.map Fnc.cells)])]) m.CkI 0 ⟨Nat.zero_le _, by simp⟩ (Wk.subs (by simp) (by simp)) ?_
  rintro i hI
  have hi := hI.1
  simp (config := { contextual := true, maxSteps := 2000000 }) (disch := omega) [-Int.not_lt, -Int.not_le, -Nat.not_lt, -Nat.not_le, elemK_get, wrapI, leT, leF, ltT, ltF, leTn, leFn, ltTn, ltFn]
  refine ⟨fun hlt => ?_, fun hge => ?_⟩
  · refine callS_go ?_; simp; refine callA_of (code_Type_spec m.consts[i] (hc _ (List.getElem_mem hlt))) (by simp) ?_
    simp (config := { contextual := true, maxSteps := 2000000 }) (disch := omega) [-Int.not_lt, -Int.not_le, -Nat.not_lt, -Nat.not_le, elemK_get, wrapI, leT, leF, ltT, ltF, leTn, leFn, ltTn, ltFn, eqS_lit]
    refine ⟨fun h => (m.ver_bad fun hv => hv.ct _ (List.getElem_mem hlt) h).symm, fun h => ?_⟩
    refine .of (i + 1) ⟨hlt, fun k hk1 hk2 => ?_⟩ (by omega) (Wk.subs (by simp) (by simp))
    by_cases e : k = i
    · subst e; exact h
    · exact hI.2 k hk1 (by omega)
  have hct : ∀ v ∈ m.consts, v.tyc ≠ [] := fun v hv => by
    obtain ⟨k, hk, rfl⟩ := List.getElem_of_mem hv
    exact hI.2 k hk (by omega)
  clear hI hi hge
  refine loopS_while (fun i : Nat => m.funcs.length - i) (fun i => [(43, vI i), (42, vI m.funcs.length), (41, .lst (m.funcs.map Fnc.cells)), (2, .bp (.l 2 0) 0), (1, vI states)])
    (fun _ => [(.l 2 0, .box [.lst (m.consts.map Val.cells), .lst (m.funcs.map Fnc.cells)])]) (m.FkI states) 0 ⟨Nat.zero_le _, by simp⟩ (Wk.subs (by simp) (by simp)) ?_
  rintro i hI
  have hi := hI.1
  simp (config := { contextual := true, maxSteps := 2000000 }) (disch := omega) [-Int.not_lt, -Int.not_le, -Nat.not_lt, -Nat.not_le, elemK_get, wrapI, leT, leF, ltT, ltF, leTn, leFn, ltTn, ltFn]
  refine ⟨fun hlt => ?_, fun hge => ?_⟩
  · have hfl := hf _ (List.getElem_mem hlt)
    have hbd : m.vOk states → m.fnOk states i m.funcs[i] := fun hv => hv.fn i hlt
    generalize hfe : m.funcs[i] = f at *
    refine ⟨fun h => (m.ver_bad fun hv => by have := (hbd hv).bnd.p0; omega).symm, fun b0 => ⟨fun h => (m.ver_bad fun hv => by have := (hbd hv).bnd.p1; omega).symm, fun b1 => ⟨fun h => (m.ver_bad fun hv => by have := (hbd hv).bnd.l0; omega).symm, fun b2 => ⟨fun h => (m.ver_bad fun hv => by have := (hbd hv).bnd.l1; omega).symm, fun b3 => ⟨fun h => (m.ver_bad fun hv => by have := (hbd hv).bnd.z0; omega).symm, fun b4 => ⟨fun h => (m.ver_bad fun hv => by have := (hbd hv).bnd.z1; omega).symm, fun b5 => ⟨fun h => (m.ver_bad fun hv => by have := (hbd hv).bnd.s0; omega).symm, fun b6 => ⟨fun h => (m.ver_bad fun hv => by have := (hbd hv).bnd.s1; omega).symm, fun b7 => ⟨fun h => (m.ver_bad fun hv => by have := (hbd hv).bnd.c0; omega).symm, fun b8 => ⟨fun h => (m.ver_bad fun hv => by have := (hbd hv).bnd.c1; omega).symm, fun b9 => ?_⟩⟩⟩⟩⟩⟩⟩⟩⟩⟩
    have hbn : f.bnd m := ⟨by omega, by omega, by omega, by omega, by omega, by omega, by omega, by omega, by omega, by omega⟩
    refine loopS_while (fun j : Nat => f.code.length - j) (fun j => [(106, vI j), (105, vI f.code.length), (104, .lst (f.code.map Ins.cells)), (8, .bp (.l 8 0) 0), (7, vI i), (43, vI i), (42, vI m.funcs.length), (41, .lst (m.funcs.map Fnc.cells)), (2, .bp (.l 2 0) 0), (1, vI states)])
      (fun _ => [(.l 8 0, .box f.cells), (.l 2 0, .box [.lst (m.consts.map Val.cells), .lst (m.funcs.map Fnc.cells)])]) (m.IkI states i f) 0 ⟨Nat.zero_le _, by simp⟩ (Wk.subs (by simp) (by simp)) ?_
    rintro j hJ
    have hj := hJ.1
    simp (config := { contextual := true, maxSteps := 2000000 }) (disch := omega) [-Int.not_lt, -Int.not_le, -Nat.not_lt, -Nat.not_le, elemK_get, wrapI, leT, leF, ltT, ltF, leTn, leFn, ltTn, ltFn]
    refine ⟨fun hjl => ?_, fun hjg => ?_⟩
    · refine callS_go ?_; simp; refine callA_of (code_right_spec m states i f.code[j] hlt) (by simp) ?_
      rw [hfe]
      simp (config := { contextual := true, maxSteps := 2000000 }) (disch := omega) [-Int.not_lt, -Int.not_le, -Nat.not_lt, -Nat.not_le, elemK_get, wrapI, leT, leF, ltT, ltF, leTn, leFn, ltTn, ltFn]
      refine ⟨fun hr => ?_, fun hr => (m.ver_bad fun hv => by have := (hbd hv).ins _ (List.getElem_mem hjl); rw [hr] at this; cases this).symm⟩
      refine .of (j + 1) ⟨hjl, fun k hk1 hk2 => ?_⟩ (by omega) (Wk.subs (by simp) (by simp))
      by_cases e : k = j
      · subst e; exact hr
      · exact hJ.2 k hk1 (by omega)
    · have hins : ∀ x ∈ f.code, m.insOk states i f x = true := fun x hx => by
        obtain ⟨k, hk, rfl⟩ := List.getElem_of_mem hx
        exact hJ.2 k hk (by omega)
      have hs := code_heights_spec m i hlt
      rw [hfe] at hs
      refine callS_go ?_; simp; refine callA_of (hs (by omega) (by omega) (by omega) (by omega) fun x hx => pops_bnd hlt (hins x hx) fun k hk hki => (hI.2 k hk hki).bnd) (by simp) ?_
      simp (config := { contextual := true, maxSteps := 2000000 }) (disch := omega) [-Int.not_lt, -Int.not_le, -Nat.not_lt, -Nat.not_le, elemK_get, wrapI, leT, leF, ltT, ltF, leTn, leFn, ltTn, ltFn]
      refine ⟨fun hr => ?_, fun hr => (m.ver_bad fun hv => by have := (hbd hv).hgt; rw [hr] at this; cases this).symm⟩
      refine .of (i + 1) ⟨hlt, fun k hk1 hk2 => ?_⟩ (by omega) (Wk.subs (by simp) (by simp))
      by_cases e : k = i
      · subst e; rw [hfe]; exact ⟨hbn, hins, hr⟩
      · exact hI.2 k hk1 (by omega)
  · refine (m.ver_ok ⟨by omega, by omega, by omega, by omega, hct, fun n hn => hI.2 n hn (by omega)⟩).symm
end Go.Am
end

section
namespace Go.Am
set_option maxRecDepth 100000
attribute [local irreducible] vc vcIs vcI vcOp vcD vcDp vcDR vcT vcAR stepD stepDp panD neG ne pv J callS callN loopS lookK evK evsK nthK objK boxK rowK boolK intK strK aggK fnK ifcK cellsK cellsLK ldK ldaK iaK srcK stK appK appD isnlD pvK callJ callJD callA
abbrev trapV (e : Int) : V := .ifc 62 (.agg [vI e])
theorem vm_must_ok : Ret prog f_vm_must [vI 0] (.tup []) := by
  refine J_pure fn_vm_must (by simp) ?_
  simp (config := { contextual := true, maxSteps := 2000000 }) (disch := omega) [-Int.not_lt, -Int.not_le, -Nat.not_lt, -Nat.not_le, elemK_get, wrapI, leT, leF, ltT, ltF, leTn, leFn, ltTn, ltFn, cd_vm_must]
theorem vm_must_pan (e : Int) (he : e ≠ 0) : J prog f_vm_must [vI e] [] (· = .pan (trapV e) []) := by
  refine J_pure fn_vm_must (by simp) ?_
  simp (config := { contextual := true, maxSteps := 2000000 }) (disch := omega) [-Int.not_lt, -Int.not_le, -Nat.not_lt, -Nat.not_le, elemK_get, wrapI, leT, leF, ltT, ltF, leTn, leFn, ltTn, ltFn, cd_vm_must, he]
structure VmS where
  fn : Fnc
  loc : List Val
  stk : List Val
  junk : List Val
  at_ : Int
  m : Mdl
  sts : List Val
  fuel : Int
def VmS.obs (m : VmS) : List Ob :=
  [.box [.bp (.e 1) 0, vI m.fn.params, vI m.fn.locals, vI m.fn.zero, vI m.fn.stack, .lst (m.fn.code.map Ins.cells), .arr (.e 2) 0 m.loc.length, .arr (.e 3) 0 m.stk.length, vI m.at_],
   .box [.lst (m.m.consts.map Val.cells), .lst (m.m.funcs.map Fnc.cells), .arr (.e 4) 0 m.sts.length, vI m.fuel],
   .row t_api_Value 4 true (m.loc.map Val.cells), .row t_api_Value 4 true (m.stk.map Val.cells ++ m.junk.map Val.cells), .row t_api_Value 4 true (m.sts.map Val.cells)]
def machObs (m : Mdl) (sts : List Val) (fuel : Int) : List Ob :=
  [.box [.lst (m.consts.map Val.cells), .lst (m.funcs.map Fnc.cells), .arr (.e 1) 0 sts.length, vI fuel], .row t_api_Value 4 true (sts.map Val.cells)]
theorem vm_frame_pop_spec (m : VmS) (s : List Val) (v : Val) (h : m.stk = s ++ [v]) (hl : m.stk.length < 2 ^ 40) :
    J prog f_vm_frame_pop [.bp (.e 0) 0] m.obs (· = .ret v.V { m with stk := s, junk := v :: m.junk }.obs) := by
  have hn : m.stk.length = s.length + 1 := by rw [h]; simp
  refine J_genW fn_vm_frame_pop (by simp [VmS.obs]) ?_
  simp (config := { contextual := true, maxSteps := 2000000 }) (disch := omega) [-Int.not_lt, -Int.not_le, -Nat.not_lt, -Nat.not_le, elemK_get, wrapI, leT, leF, ltT, ltF, leTn, leFn, ltTn, ltFn, cd_vm_frame_pop, VmS.obs, hpE]
  have e : ((m.stk ++ m.junk).map Val.cells)[m.stk.length - 1]? = some v.cells := by rw [h]; simp
  simp only [List.map_append] at e
  rw [elemK_eq_of e]
  simp (config := { contextual := true, maxSteps := 2000000 }) (disch := omega) [-Int.not_lt, -Int.not_le, -Nat.not_lt, -Nat.not_le, elemK_get, wrapI, leT, leF, ltT, ltF, leTn, leFn, ltTn, ltFn]
  refine endR _ _ (Wk.refl _ _) [] (by simp) ?_
  simp (config := { contextual := true, maxSteps := 2000000 }) (disch := omega) [-Int.not_lt, -Int.not_le, -Nat.not_lt, -Nat.not_le, elemK_get, wrapI, leT, leF, ltT, ltF, leTn, leFn, ltTn, ltFn, h]
def VmS.obs' (m : VmS) : List Ob :=
  [.box [.bp (.e 1) 0, vI m.fn.params, vI m.fn.locals, vI m.fn.zero, vI m.fn.stack, .lst (m.fn.code.map Ins.cells), .arr (.e 2) 0 m.loc.length, .arr (.e 5) 0 m.stk.length, vI m.at_],
   .box [.lst (m.m.consts.map Val.cells), .lst (m.m.funcs.map Fnc.cells), .arr (.e 4) 0 m.sts.length, vI m.fuel],
   .row t_api_Value 4 true (m.loc.map Val.cells), .gone, .row t_api_Value 4 true (m.sts.map Val.cells), .row t_api_Value 4 true (m.stk.map Val.cells ++ m.junk.map Val.cells)]
theorem vm_frame_push_ok (m : VmS) (v : Val) (hl : m.stk.length < 2 ^ 40) :
    J prog f_vm_frame_push [.bp (.e 0) 0, v.V, vI 0] m.obs (· = .ret (.tup []) { m with stk := m.stk ++ [v], junk := [] }.obs') := by
  refine J_genW fn_vm_frame_push (by simp [VmS.obs]) ?_
  simp (config := { contextual := true, maxSteps := 2000000 }) (disch := omega) [-Int.not_lt, -Int.not_le, -Nat.not_lt, -Nat.not_le, elemK_get, wrapI, leT, leF, ltT, ltF, leTn, leFn, ltTn, ltFn, cd_vm_frame_push, VmS.obs, hpE]
  refine callS_go ?_; simp; refine callA_of (vm_must_ok) (by simp) ?_
  simp (config := { contextual := true, maxSteps := 2000000 }) (disch := omega) [-Int.not_lt, -Int.not_le, -Nat.not_lt, -Nat.not_le, elemK_get, wrapI, leT, leF, ltT, ltF, leTn, leFn, ltTn, ltFn]
  have e : (List.take m.stk.length (m.stk.map Val.cells ++ m.junk.map Val.cells) ++ [(Val.mk 0 0 noS []).cells])[m.stk.length]? = some (Val.mk 0 0 noS []).cells := by
    rw [List.getElem?_append_right (by simp)]; simp
  rw [elemK_eq_of e]
  simp (config := { contextual := true, maxSteps := 2000000 }) (disch := omega) [-Int.not_lt, -Int.not_le, -Nat.not_lt, -Nat.not_le, elemK_get, wrapI, leT, leF, ltT, ltF, leTn, leFn, ltTn, ltFn]
  have r : (List.take m.stk.length (m.stk.map Val.cells ++ m.junk.map Val.cells) ++ [(Val.mk 0 0 noS []).cells]).set m.stk.length v.cells = m.stk.map Val.cells ++ [v.cells] := by
    have h1 : m.stk.length ≤ (m.stk.map Val.cells).length := by simp
    have h2 : (m.stk.map Val.cells).length ≤ m.stk.length := by simp
    rw [List.take_append_of_le_length h1, List.take_of_length_le h2, List.set_append_right _ _ h2]; simp
  rw [r]
  refine endN _ _ (Wk.refl _ _) [.l 15 0] (by simp) ?_
  simp (config := { contextual := true, maxSteps := 2000000 }) (disch := omega) [-Int.not_lt, -Int.not_le, -Nat.not_lt, -Nat.not_le, elemK_get, wrapI, leT, leF, ltT, ltF, leTn, leFn, ltTn, ltFn, VmS.obs']
theorem vm_frame_push_pan (m : VmS) (v : Val) (e : Int) (he : e ≠ 0) :
    J prog f_vm_frame_push [.bp (.e 0) 0, v.V, vI e] m.obs (· = .pan (trapV e) m.obs) := by
  refine J_genW fn_vm_frame_push (by simp [VmS.obs]) ?_
  simp (config := { contextual := true, maxSteps := 2000000 }) (disch := omega) [-Int.not_lt, -Int.not_le, -Nat.not_lt, -Nat.not_le, elemK_get, wrapI, leT, leF, ltT, ltF, leTn, leFn, ltTn, ltFn, cd_vm_frame_push, VmS.obs, hpE]
  refine callS_obj [] rfl rfl (by simp) ?_
  simp
  refine callJ_pan (vm_must_pan e he) ?_
  simp (config := { contextual := true, maxSteps := 2000000 }) (disch := omega) [-Int.not_lt, -Int.not_le, -Nat.not_lt, -Nat.not_le, elemK_get, wrapI, leT, leF, ltT, ltF, leTn, leFn, ltTn, ltFn]
  refine endP ?_
  simp (config := { contextual := true, maxSteps := 2000000 }) (disch := omega) [-Int.not_lt, -Int.not_le, -Nat.not_lt, -Nat.not_le, elemK_get, wrapI, leT, leF, ltT, ltF, leTn, leFn, ltTn, ltFn]
end Go.Am
end

section
namespace Go.Am
set_option maxRecDepth 100000
attribute [local irreducible] vc vcIs vcI vcOp vcD vcDp vcDR vcT vcAR stepD stepDp panD neG ne pv J callS callN loopS lookK evK evsK nthK objK boxK rowK boolK intK strK aggK fnK ifcK cellsK cellsLK ldK ldaK iaK srcK stK appK appD isnlD pvK callJ callJD callA
theorem vm_machine_charge_ok (md : Mdl) (sts : List Val) (fuel n : Int) (hn : n ≤ fuel) (h0 : 0 ≤ n) (h1 : fuel < 2 ^ 40) :
    J prog f_vm_machine_charge [.bp (.e 0) 0, vI n] (machObs md sts fuel) (· = .ret (.tup []) (machObs md sts (fuel - n))) := by
  refine J_genW fn_vm_machine_charge (by simp [machObs]) ?_
  simp (config := { contextual := true, maxSteps := 2000000 }) (disch := omega) [-Int.not_lt, -Int.not_le, -Nat.not_lt, -Nat.not_le, elemK_get, wrapI, leT, leF, ltT, ltF, leTn, leFn, ltTn, ltFn, cd_vm_machine_charge, machObs, hpE]
  refine endN _ _ (Wk.refl _ _) [] (by simp) ?_
  simp (config := { contextual := true, maxSteps := 2000000 }) (disch := omega) [-Int.not_lt, -Int.not_le, -Nat.not_lt, -Nat.not_le, elemK_get, wrapI, leT, leF, ltT, ltF, leTn, leFn, ltTn, ltFn]
theorem vm_machine_charge_pan (md : Mdl) (sts : List Val) (fuel n : Int) (hn : fuel < n) :
    J prog f_vm_machine_charge [.bp (.e 0) 0, vI n] (machObs md sts fuel) (· = .pan (trapV 54) (machObs md sts 0)) := by
  refine J_genW fn_vm_machine_charge (by simp [machObs]) ?_
  simp (config := { contextual := true, maxSteps := 2000000 }) (disch := omega) [-Int.not_lt, -Int.not_le, -Nat.not_lt, -Nat.not_le, elemK_get, wrapI, leT, leF, ltT, ltF, leTn, leFn, ltTn, ltFn, cd_vm_machine_charge, machObs, hpE]
  refine callS_obj [] rfl rfl (by simp) ?_
  simp
  refine callJ_pan (vm_must_pan 54 (by simp)) ?_
  simp (config := { contextual := true, maxSteps := 2000000 }) (disch := omega) [-Int.not_lt, -Int.not_le, -Nat.not_lt, -Nat.not_le, elemK_get, wrapI, leT, leF, ltT, ltF, leTn, leFn, ltTn, ltFn]
  refine endP ?_
  simp (config := { contextual := true, maxSteps := 2000000 }) (disch := omega) [-Int.not_lt, -Int.not_le, -Nat.not_lt, -Nat.not_le, elemK_get, wrapI, leT, leF, ltT, ltF, leTn, leFn, ltTn, ltFn]
theorem vm_frame_two_spec (m : VmS) (s : List Val) (a b : Val) (h : m.stk = s ++ [a, b]) (hl : m.stk.length < 2 ^ 40) :
    J prog f_vm_frame_two [.bp (.e 0) 0] m.obs (· = .ret (.tup [a.V, b.V]) { m with stk := s, junk := a :: b :: m.junk }.obs) := by
  refine J_genW fn_vm_frame_two (by simp [VmS.obs]) ?_
  simp (config := { contextual := true, maxSteps := 2000000 }) (disch := omega) [-Int.not_lt, -Int.not_le, -Nat.not_lt, -Nat.not_le, elemK_get, wrapI, leT, leF, ltT, ltF, leTn, leFn, ltTn, ltFn, cd_vm_frame_two, VmS.obs, hpE]
  refine callS_obj [.e 0, .e 1, .e 2, .e 3, .e 4] rfl rfl (by simp) ?_
  simp
  have hpO := vm_frame_pop_spec m (s ++ [a]) b (by simp [h]) hl
  try simp [VmS.obs, VmS.obs', machObs] at hpO
  refine callJ_ret 6 hpO (by simp) ?_
  clear hpO
  simp (config := { contextual := true, maxSteps := 2000000 }) (disch := omega) [-Int.not_lt, -Int.not_le, -Nat.not_lt, -Nat.not_le, elemK_get, wrapI, leT, leF, ltT, ltF, leTn, leFn, ltTn, ltFn]
  refine callN_obj [.e 0, .e 1, .e 2, .e 3, .e 4] [.e 0, .e 1, .e 2, .e 3, .e 4] rfl rfl (by simp) ?_
  simp
  have hpO := vm_frame_pop_spec { m with stk := s ++ [a], junk := b :: m.junk } s a (by simp) (by simp [h] at hl ⊢; omega)
  try simp [VmS.obs, VmS.obs', machObs] at hpO
  refine callJD_ret 8 hpO (by simp) ?_
  clear hpO
  simp (config := { contextual := true, maxSteps := 2000000 }) (disch := omega) [-Int.not_lt, -Int.not_le, -Nat.not_lt, -Nat.not_le, elemK_get, wrapI, leT, leF, ltT, ltF, leTn, leFn, ltTn, ltFn]
  refine endR _ _ (Wk.refl _ _) [] (by simp) ?_
  simp (config := { contextual := true, maxSteps := 2000000 }) (disch := omega) [-Int.not_lt, -Int.not_le, -Nat.not_lt, -Nat.not_le, elemK_get, wrapI, leT, leF, ltT, ltF, leTn, leFn, ltTn, ltFn]
theorem vm_frame_truth_ok (m : VmS) (s : List Val) (v : Val) (h : m.stk = s ++ [v]) (hv : v.kind = 2) (hl : m.stk.length < 2 ^ 40) :
    J prog f_vm_frame_truth [.bp (.e 0) 0] m.obs (· = .ret (vB (decide (v.num = 1))) { m with stk := s, junk := v :: m.junk }.obs) := by
  refine J_genW fn_vm_frame_truth (by simp [VmS.obs]) ?_
  simp (config := { contextual := true, maxSteps := 2000000 }) (disch := omega) [-Int.not_lt, -Int.not_le, -Nat.not_lt, -Nat.not_le, elemK_get, wrapI, leT, leF, ltT, ltF, leTn, leFn, ltTn, ltFn, cd_vm_frame_truth, VmS.obs, hpE]
  refine callS_obj [.e 0, .e 1, .e 2, .e 3, .e 4] rfl rfl (by simp) ?_
  simp
  have hpO := vm_frame_pop_spec m s v h hl
  try simp [VmS.obs, VmS.obs', machObs] at hpO
  refine callJ_ret 5 hpO (by simp) ?_
  clear hpO
  simp (config := { contextual := true, maxSteps := 2000000 }) (disch := omega) [-Int.not_lt, -Int.not_le, -Nat.not_lt, -Nat.not_le, elemK_get, wrapI, leT, leF, ltT, ltF, leTn, leFn, ltTn, ltFn, hv]
  refine endR _ _ (Wk.refl _ _) [] (by simp) ?_
  simp (config := { contextual := true, maxSteps := 2000000 }) (disch := omega) [-Int.not_lt, -Int.not_le, -Nat.not_lt, -Nat.not_le, elemK_get, wrapI, leT, leF, ltT, ltF, leTn, leFn, ltTn, ltFn]
  rfl
theorem vm_frame_truth_pan (m : VmS) (s : List Val) (v : Val) (h : m.stk = s ++ [v]) (hv : v.kind ≠ 2) (hl : m.stk.length < 2 ^ 40) :
    J prog f_vm_frame_truth [.bp (.e 0) 0] m.obs (· = .pan (trapV 40) { m with stk := s, junk := v :: m.junk }.obs) := by
  refine J_genW fn_vm_frame_truth (by simp [VmS.obs]) ?_
  simp (config := { contextual := true, maxSteps := 2000000 }) (disch := omega) [-Int.not_lt, -Int.not_le, -Nat.not_lt, -Nat.not_le, elemK_get, wrapI, leT, leF, ltT, ltF, leTn, leFn, ltTn, ltFn, cd_vm_frame_truth, VmS.obs, hpE]
  refine callS_obj [.e 0, .e 1, .e 2, .e 3, .e 4] rfl rfl (by simp) ?_
  simp
  have hpO := vm_frame_pop_spec m s v h hl
  try simp [VmS.obs, VmS.obs', machObs] at hpO
  refine callJ_ret 5 hpO (by simp) ?_
  clear hpO
  simp (config := { contextual := true, maxSteps := 2000000 }) (disch := omega) [-Int.not_lt, -Int.not_le, -Nat.not_lt, -Nat.not_le, elemK_get, wrapI, leT, leF, ltT, ltF, leTn, leFn, ltTn, ltFn, hv]
  refine callS_obj [] rfl rfl (by simp) ?_
  simp
  have hpO := vm_must_pan 40 (by simp)
  try simp [VmS.obs, VmS.obs', machObs] at hpO
  refine callJ_pan hpO ?_
  clear hpO
  simp (config := { contextual := true, maxSteps := 2000000 }) (disch := omega) [-Int.not_lt, -Int.not_le, -Nat.not_lt, -Nat.not_le, elemK_get, wrapI, leT, leF, ltT, ltF, leTn, leFn, ltTn, ltFn]
  refine endP ?_
  simp (config := { contextual := true, maxSteps := 2000000 }) (disch := omega) [-Int.not_lt, -Int.not_le, -Nat.not_lt, -Nat.not_le, elemK_get, wrapI, leT, leF, ltT, ltF, leTn, leFn, ltTn, ltFn]
theorem vm_frame_jump_ok (m : VmS) (a : Int) (h : a < m.at_ → 1 ≤ m.fuel) (h1 : m.fuel < 2 ^ 40) :
    J prog f_vm_frame_jump [.bp (.e 0) 0, vI a] m.obs (· = .ret (.tup []) { m with at_ := a, fuel := if a < m.at_ then m.fuel - 1 else m.fuel }.obs) := by
  refine J_genW fn_vm_frame_jump (by simp [VmS.obs]) ?_
  simp (config := { contextual := true, maxSteps := 2000000 }) (disch := omega) [-Int.not_lt, -Int.not_le, -Nat.not_lt, -Nat.not_le, elemK_get, wrapI, leT, leF, ltT, ltF, leTn, leFn, ltTn, ltFn, cd_vm_frame_jump, VmS.obs, hpE]
  refine ⟨fun hlt => ?_, fun hge => ?_⟩
  · refine callS_obj [.e 1, .e 4] rfl rfl (by simp) ?_
    simp
    have hpO := vm_machine_charge_ok m.m m.sts m.fuel 1 (h hlt) (by simp) h1
    try simp [VmS.obs, VmS.obs', machObs] at hpO
    refine callJ_ret 14 hpO (by simp) ?_
    clear hpO
    simp (config := { contextual := true, maxSteps := 2000000 }) (disch := omega) [-Int.not_lt, -Int.not_le, -Nat.not_lt, -Nat.not_le, elemK_get, wrapI, leT, leF, ltT, ltF, leTn, leFn, ltTn, ltFn]
    refine endN _ _ (Wk.refl _ _) [] (by simp) ?_
    simp (config := { contextual := true, maxSteps := 2000000 }) (disch := omega) [-Int.not_lt, -Int.not_le, -Nat.not_lt, -Nat.not_le, elemK_get, wrapI, leT, leF, ltT, ltF, leTn, leFn, ltTn, ltFn, hlt]
  · refine endN _ _ (Wk.refl _ _) [] (by simp) ?_
    simp (config := { contextual := true, maxSteps := 2000000 }) (disch := omega) [-Int.not_lt, -Int.not_le, -Nat.not_lt, -Nat.not_le, elemK_get, wrapI, leT, leF, ltT, ltF, leTn, leFn, ltTn, ltFn, hge]
theorem vm_frame_jump_pan (m : VmS) (a : Int) (hlt : a < m.at_) (h : m.fuel < 1) :
    J prog f_vm_frame_jump [.bp (.e 0) 0, vI a] m.obs (· = .pan (trapV 54) { m with fuel := 0 }.obs) := by
  refine J_genW fn_vm_frame_jump (by simp [VmS.obs]) ?_
  simp (config := { contextual := true, maxSteps := 2000000 }) (disch := omega) [-Int.not_lt, -Int.not_le, -Nat.not_lt, -Nat.not_le, elemK_get, wrapI, leT, leF, ltT, ltF, leTn, leFn, ltTn, ltFn, cd_vm_frame_jump, VmS.obs, hpE]
  refine callS_obj [.e 1, .e 4] rfl rfl (by simp) ?_
  simp
  have hpO := vm_machine_charge_pan m.m m.sts m.fuel 1 h
  try simp [VmS.obs, VmS.obs', machObs] at hpO
  refine callJ_pan hpO ?_
  clear hpO
  simp (config := { contextual := true, maxSteps := 2000000 }) (disch := omega) [-Int.not_lt, -Int.not_le, -Nat.not_lt, -Nat.not_le, elemK_get, wrapI, leT, leF, ltT, ltF, leTn, leFn, ltTn, ltFn]
  refine endP ?_
  simp (config := { contextual := true, maxSteps := 2000000 }) (disch := omega) [-Int.not_lt, -Int.not_le, -Nat.not_lt, -Nat.not_le, elemK_get, wrapI, leT, leF, ltT, ltF, leTn, leFn, ltTn, ltFn]
end Go.Am
end

section
namespace Go.Am
set_option maxRecDepth 100000
attribute [local irreducible] vc vcIs vcI vcOp vcD vcDp vcDR vcT vcAR stepD stepDp panD neG ne pv J callS callN loopS lookK evK evsK nthK objK boxK rowK boolK intK strK aggK fnK ifcK cellsK cellsLK ldK ldaK iaK srcK stK appK appD isnlD pvK callJ callJD callA
def VmS.push (m : VmS) (v : Val) : VmS := { m with stk := m.stk ++ [v], junk := [] }
theorem vm_table_1_spec (m : VmS) (a : Int) (h0 : 0 ≤ a) (h : a.toNat < m.m.consts.length) (hl : m.stk.length < 2 ^ 40) :
    J prog f_vm_table_1 [.bp (.e 0) 0, vI a] m.obs (· = .ret (.tup []) (m.push (m.m.consts[a.toNat])).obs') := by
  refine J_genW fn_vm_table_1 (by simp [VmS.obs]) ?_
  simp (config := { contextual := true, maxSteps := 2000000 }) (disch := omega) [-Int.not_lt, -Int.not_le, -Nat.not_lt, -Nat.not_le, elemK_get, wrapI, leT, leF, ltT, ltF, leTn, leFn, ltTn, ltFn, cd_vm_table_1, VmS.obs, VmS.push, hpE]
  refine callS_obj [.e 0, .e 1, .e 2, .e 3, .e 4] rfl rfl (by simp) ?_
  simp
  have hpO := vm_frame_push_ok m (m.m.consts[a.toNat]) hl
  try simp [VmS.obs, VmS.obs', machObs] at hpO
  refine callJ_ret 16 hpO (by simp) ?_
  clear hpO
  simp (config := { contextual := true, maxSteps := 2000000 }) (disch := omega) [-Int.not_lt, -Int.not_le, -Nat.not_lt, -Nat.not_le, elemK_get, wrapI, leT, leF, ltT, ltF, leTn, leFn, ltTn, ltFn]
  refine endN _ _ (Wk.refl _ _) [.l 16 0] (by simp) ?_
  simp (config := { contextual := true, maxSteps := 2000000 }) (disch := omega) [-Int.not_lt, -Int.not_le, -Nat.not_lt, -Nat.not_le, elemK_get, wrapI, leT, leF, ltT, ltF, leTn, leFn, ltTn, ltFn, VmS.obs']
theorem vm_table_2_spec (m : VmS) (a : Int) (h0 : 0 ≤ a) (h : a.toNat < m.loc.length) (hl : m.stk.length < 2 ^ 40) :
    J prog f_vm_table_2 [.bp (.e 0) 0, vI a] m.obs (· = .ret (.tup []) (m.push (m.loc[a.toNat])).obs') := by
  refine J_genW fn_vm_table_2 (by simp [VmS.obs]) ?_
  simp (config := { contextual := true, maxSteps := 2000000 }) (disch := omega) [-Int.not_lt, -Int.not_le, -Nat.not_lt, -Nat.not_le, elemK_get, wrapI, leT, leF, ltT, ltF, leTn, leFn, ltTn, ltFn, cd_vm_table_2, VmS.obs, VmS.push, hpE]
  refine callS_obj [.e 0, .e 1, .e 2, .e 3, .e 4] rfl rfl (by simp) ?_
  simp
  have hpO := vm_frame_push_ok m (m.loc[a.toNat]) hl
  try simp [VmS.obs, VmS.obs', machObs] at hpO
  refine callJ_ret 12 hpO (by simp) ?_
  clear hpO
  simp (config := { contextual := true, maxSteps := 2000000 }) (disch := omega) [-Int.not_lt, -Int.not_le, -Nat.not_lt, -Nat.not_le, elemK_get, wrapI, leT, leF, ltT, ltF, leTn, leFn, ltTn, ltFn]
  refine endN _ _ (Wk.refl _ _) [.l 12 0] (by simp) ?_
  simp (config := { contextual := true, maxSteps := 2000000 }) (disch := omega) [-Int.not_lt, -Int.not_le, -Nat.not_lt, -Nat.not_le, elemK_get, wrapI, leT, leF, ltT, ltF, leTn, leFn, ltTn, ltFn, VmS.obs']
theorem vm_table_4_spec (m : VmS) (a : Int) (h0 : 0 ≤ a) (h : a.toNat < m.sts.length) (hl : m.stk.length < 2 ^ 40) :
    J prog f_vm_table_4 [.bp (.e 0) 0, vI a] m.obs (· = .ret (.tup []) (m.push (m.sts[a.toNat])).obs') := by
  refine J_genW fn_vm_table_4 (by simp [VmS.obs]) ?_
  simp (config := { contextual := true, maxSteps := 2000000 }) (disch := omega) [-Int.not_lt, -Int.not_le, -Nat.not_lt, -Nat.not_le, elemK_get, wrapI, leT, leF, ltT, ltF, leTn, leFn, ltTn, ltFn, cd_vm_table_4, VmS.obs, VmS.push, hpE]
  refine callS_obj [.e 0, .e 1, .e 2, .e 3, .e 4] rfl rfl (by simp) ?_
  simp
  have hpO := vm_frame_push_ok m (m.sts[a.toNat]) hl
  try simp [VmS.obs, VmS.obs', machObs] at hpO
  refine callJ_ret 15 hpO (by simp) ?_
  clear hpO
  simp (config := { contextual := true, maxSteps := 2000000 }) (disch := omega) [-Int.not_lt, -Int.not_le, -Nat.not_lt, -Nat.not_le, elemK_get, wrapI, leT, leF, ltT, ltF, leTn, leFn, ltTn, ltFn]
  refine endN _ _ (Wk.refl _ _) [.l 15 0] (by simp) ?_
  simp (config := { contextual := true, maxSteps := 2000000 }) (disch := omega) [-Int.not_lt, -Int.not_le, -Nat.not_lt, -Nat.not_le, elemK_get, wrapI, leT, leF, ltT, ltF, leTn, leFn, ltTn, ltFn, VmS.obs']
theorem vm_table_6_spec (m : VmS) (a : Int) (s : List Val) (v : Val) (hs : m.stk = s ++ [v]) (hl : m.stk.length < 2 ^ 40) :
    J prog f_vm_table_6 [.bp (.e 0) 0, vI a] m.obs (· = .ret (.tup []) { m with stk := s, junk := v :: m.junk }.obs) := by
  refine J_genW fn_vm_table_6 (by simp [VmS.obs]) ?_
  simp (config := { contextual := true, maxSteps := 2000000 }) (disch := omega) [-Int.not_lt, -Int.not_le, -Nat.not_lt, -Nat.not_le, elemK_get, wrapI, leT, leF, ltT, ltF, leTn, leFn, ltTn, ltFn, cd_vm_table_6, VmS.obs, hpE]
  refine callS_obj [.e 0, .e 1, .e 2, .e 3, .e 4] rfl rfl (by simp) ?_
  simp
  have hpO := vm_frame_pop_spec m s v hs hl
  try simp [VmS.obs, VmS.obs', machObs] at hpO
  refine callJ_ret 5 hpO (by simp) ?_
  clear hpO
  simp (config := { contextual := true, maxSteps := 2000000 }) (disch := omega) [-Int.not_lt, -Int.not_le, -Nat.not_lt, -Nat.not_le, elemK_get, wrapI, leT, leF, ltT, ltF, leTn, leFn, ltTn, ltFn]
  refine endN _ _ (Wk.refl _ _) [] (by simp) ?_
  simp (config := { contextual := true, maxSteps := 2000000 }) (disch := omega) [-Int.not_lt, -Int.not_le, -Nat.not_lt, -Nat.not_le, elemK_get, wrapI, leT, leF, ltT, ltF, leTn, leFn, ltTn, ltFn]
def VmS.jump (m : VmS) (a : Int) : VmS := { m with at_ := a, fuel := if a < m.at_ then m.fuel - 1 else m.fuel }
theorem vm_table_7_on (m : VmS) (a : Int) (s : List Val) (v : Val) (hs : m.stk = s ++ [v]) (hv : v.kind = 2) (h1 : v.num = 1) (hl : m.stk.length < 2 ^ 40) :
    J prog f_vm_table_7 [.bp (.e 0) 0, vI a] m.obs (· = .ret (.tup []) { m with stk := s, junk := v :: m.junk }.obs) := by
  refine J_genW fn_vm_table_7 (by simp [VmS.obs]) ?_
  simp (config := { contextual := true, maxSteps := 2000000 }) (disch := omega) [-Int.not_lt, -Int.not_le, -Nat.not_lt, -Nat.not_le, elemK_get, wrapI, leT, leF, ltT, ltF, leTn, leFn, ltTn, ltFn, cd_vm_table_7, VmS.obs, hpE]
  refine callS_obj [.e 0, .e 1, .e 2, .e 3, .e 4] rfl rfl (by simp) ?_
  simp
  have hpO := vm_frame_truth_ok m s v hs hv hl
  try simp [VmS.obs, VmS.obs', machObs] at hpO
  refine callJ_ret 5 hpO (by simp) ?_
  clear hpO
  simp (config := { contextual := true, maxSteps := 2000000 }) (disch := omega) [-Int.not_lt, -Int.not_le, -Nat.not_lt, -Nat.not_le, elemK_get, wrapI, leT, leF, ltT, ltF, leTn, leFn, ltTn, ltFn, h1]
  refine endN _ _ (Wk.refl _ _) [] (by simp) ?_
  simp (config := { contextual := true, maxSteps := 2000000 }) (disch := omega) [-Int.not_lt, -Int.not_le, -Nat.not_lt, -Nat.not_le, elemK_get, wrapI, leT, leF, ltT, ltF, leTn, leFn, ltTn, ltFn]
theorem vm_table_7_go (m : VmS) (a : Int) (s : List Val) (v : Val) (hs : m.stk = s ++ [v]) (hv : v.kind = 2) (h1 : v.num ≠ 1) (hl : m.stk.length < 2 ^ 40) (h : a < m.at_ → 1 ≤ m.fuel) (hf : m.fuel < 2 ^ 40) :
    J prog f_vm_table_7 [.bp (.e 0) 0, vI a] m.obs (· = .ret (.tup []) ({ m with stk := s, junk := v :: m.junk }.jump a).obs) := by
  refine J_genW fn_vm_table_7 (by simp [VmS.obs]) ?_
  simp (config := { contextual := true, maxSteps := 2000000 }) (disch := omega) [-Int.not_lt, -Int.not_le, -Nat.not_lt, -Nat.not_le, elemK_get, wrapI, leT, leF, ltT, ltF, leTn, leFn, ltTn, ltFn, cd_vm_table_7, VmS.obs, VmS.jump, hpE]
  refine callS_obj [.e 0, .e 1, .e 2, .e 3, .e 4] rfl rfl (by simp) ?_
  simp
  have hpO := vm_frame_truth_ok m s v hs hv hl
  try simp [VmS.obs, VmS.obs', machObs] at hpO
  refine callJ_ret 5 hpO (by simp) ?_
  clear hpO
  simp (config := { contextual := true, maxSteps := 2000000 }) (disch := omega) [-Int.not_lt, -Int.not_le, -Nat.not_lt, -Nat.not_le, elemK_get, wrapI, leT, leF, ltT, ltF, leTn, leFn, ltTn, ltFn, h1]
  refine callS_obj [.e 0, .e 1, .e 2, .e 3, .e 4] rfl rfl (by simp) ?_
  simp
  have hpO := vm_frame_jump_ok { m with stk := s, junk := v :: m.junk } a h hf
  try simp [VmS.obs, VmS.obs', machObs] at hpO
  refine callJ_ret 9 hpO (by simp) ?_
  clear hpO
  simp (config := { contextual := true, maxSteps := 2000000 }) (disch := omega) [-Int.not_lt, -Int.not_le, -Nat.not_lt, -Nat.not_le, elemK_get, wrapI, leT, leF, ltT, ltF, leTn, leFn, ltTn, ltFn]
  refine endN _ _ (Wk.refl _ _) [] (by simp) ?_
  simp (config := { contextual := true, maxSteps := 2000000 }) (disch := omega) [-Int.not_lt, -Int.not_le, -Nat.not_lt, -Nat.not_le, elemK_get, wrapI, leT, leF, ltT, ltF, leTn, leFn, ltTn, ltFn]
theorem vm_table_7_pan (m : VmS) (a : Int) (s : List Val) (v : Val) (hs : m.stk = s ++ [v]) (hv : v.kind = 2) (h1 : v.num ≠ 1) (hl : m.stk.length < 2 ^ 40) (hlt : a < m.at_) (hf : m.fuel < 1) :
    J prog f_vm_table_7 [.bp (.e 0) 0, vI a] m.obs (· = .pan (trapV 54) { m with stk := s, junk := v :: m.junk, fuel := 0 }.obs) := by
  refine J_genW fn_vm_table_7 (by simp [VmS.obs]) ?_
  simp (config := { contextual := true, maxSteps := 2000000 }) (disch := omega) [-Int.not_lt, -Int.not_le, -Nat.not_lt, -Nat.not_le, elemK_get, wrapI, leT, leF, ltT, ltF, leTn, leFn, ltTn, ltFn, cd_vm_table_7, VmS.obs, hpE]
  refine callS_obj [.e 0, .e 1, .e 2, .e 3, .e 4] rfl rfl (by simp) ?_
  simp
  have hpO := vm_frame_truth_ok m s v hs hv hl
  try simp [VmS.obs, VmS.obs', machObs] at hpO
  refine callJ_ret 5 hpO (by simp) ?_
  clear hpO
  simp (config := { contextual := true, maxSteps := 2000000 }) (disch := omega) [-Int.not_lt, -Int.not_le, -Nat.not_lt, -Nat.not_le, elemK_get, wrapI, leT, leF, ltT, ltF, leTn, leFn, ltTn, ltFn, h1]
  refine callS_obj [.e 0, .e 1, .e 2, .e 3, .e 4] rfl rfl (by simp) ?_
  simp
  have hpO := vm_frame_jump_pan { m with stk := s, junk := v :: m.junk } a hlt hf
  try simp [VmS.obs, VmS.obs', machObs] at hpO
  refine callJ_pan hpO ?_
  clear hpO
  simp (config := { contextual := true, maxSteps := 2000000 }) (disch := omega) [-Int.not_lt, -Int.not_le, -Nat.not_lt, -Nat.not_le, elemK_get, wrapI, leT, leF, ltT, ltF, leTn, leFn, ltTn, ltFn]
  refine endP ?_
  simp (config := { contextual := true, maxSteps := 2000000 }) (disch := omega) [-Int.not_lt, -Int.not_le, -Nat.not_lt, -Nat.not_le, elemK_get, wrapI, leT, leF, ltT, ltF, leTn, leFn, ltTn, ltFn]
theorem vm_table_7_bad (m : VmS) (a : Int) (s : List Val) (v : Val) (hs : m.stk = s ++ [v]) (hv : v.kind ≠ 2) (hl : m.stk.length < 2 ^ 40) :
    J prog f_vm_table_7 [.bp (.e 0) 0, vI a] m.obs (· = .pan (trapV 40) { m with stk := s, junk := v :: m.junk }.obs) := by
  refine J_genW fn_vm_table_7 (by simp [VmS.obs]) ?_
  simp (config := { contextual := true, maxSteps := 2000000 }) (disch := omega) [-Int.not_lt, -Int.not_le, -Nat.not_lt, -Nat.not_le, elemK_get, wrapI, leT, leF, ltT, ltF, leTn, leFn, ltTn, ltFn, cd_vm_table_7, VmS.obs, hpE]
  refine callS_obj [.e 0, .e 1, .e 2, .e 3, .e 4] rfl rfl (by simp) ?_
  simp
  have hpO := vm_frame_truth_pan m s v hs hv hl
  try simp [VmS.obs, VmS.obs', machObs] at hpO
  refine callJ_pan hpO ?_
  clear hpO
  simp (config := { contextual := true, maxSteps := 2000000 }) (disch := omega) [-Int.not_lt, -Int.not_le, -Nat.not_lt, -Nat.not_le, elemK_get, wrapI, leT, leF, ltT, ltF, leTn, leFn, ltTn, ltFn]
  refine endP ?_
  simp (config := { contextual := true, maxSteps := 2000000 }) (disch := omega) [-Int.not_lt, -Int.not_le, -Nat.not_lt, -Nat.not_le, elemK_get, wrapI, leT, leF, ltT, ltF, leTn, leFn, ltTn, ltFn]
theorem vm_table_8_ok (m : VmS) (a : Int) (h0 : 0 ≤ a) (h : a ≤ m.fuel) (hf : m.fuel < 2 ^ 40) :
    J prog f_vm_table_8 [.bp (.e 0) 0, vI a] m.obs (· = .ret (.tup []) { m with fuel := m.fuel - a }.obs) := by
  refine J_genW fn_vm_table_8 (by simp [VmS.obs]) ?_
  simp (config := { contextual := true, maxSteps := 2000000 }) (disch := omega) [-Int.not_lt, -Int.not_le, -Nat.not_lt, -Nat.not_le, elemK_get, wrapI, leT, leF, ltT, ltF, leTn, leFn, ltTn, ltFn, cd_vm_table_8, VmS.obs, hpE]
  refine callS_obj [.e 1, .e 4] rfl rfl (by simp) ?_
  simp
  have hpO := vm_machine_charge_ok m.m m.sts m.fuel a h h0 hf
  try simp [VmS.obs, VmS.obs', machObs] at hpO
  refine callJ_ret 9 hpO (by simp) ?_
  clear hpO
  simp (config := { contextual := true, maxSteps := 2000000 }) (disch := omega) [-Int.not_lt, -Int.not_le, -Nat.not_lt, -Nat.not_le, elemK_get, wrapI, leT, leF, ltT, ltF, leTn, leFn, ltTn, ltFn]
  refine endN _ _ (Wk.refl _ _) [] (by simp) ?_
  simp (config := { contextual := true, maxSteps := 2000000 }) (disch := omega) [-Int.not_lt, -Int.not_le, -Nat.not_lt, -Nat.not_le, elemK_get, wrapI, leT, leF, ltT, ltF, leTn, leFn, ltTn, ltFn]
theorem vm_table_8_pan (m : VmS) (a : Int) (h : m.fuel < a) :
    J prog f_vm_table_8 [.bp (.e 0) 0, vI a] m.obs (· = .pan (trapV 54) { m with fuel := 0 }.obs) := by
  refine J_genW fn_vm_table_8 (by simp [VmS.obs]) ?_
  simp (config := { contextual := true, maxSteps := 2000000 }) (disch := omega) [-Int.not_lt, -Int.not_le, -Nat.not_lt, -Nat.not_le, elemK_get, wrapI, leT, leF, ltT, ltF, leTn, leFn, ltTn, ltFn, cd_vm_table_8, VmS.obs, hpE]
  refine callS_obj [.e 1, .e 4] rfl rfl (by simp) ?_
  simp
  have hpO := vm_machine_charge_pan m.m m.sts m.fuel a h
  try simp [VmS.obs, VmS.obs', machObs] at hpO
  refine callJ_pan hpO ?_
  clear hpO
  simp (config := { contextual := true, maxSteps := 2000000 }) (disch := omega) [-Int.not_lt, -Int.not_le, -Nat.not_lt, -Nat.not_le, elemK_get, wrapI, leT, leF, ltT, ltF, leTn, leFn, ltTn, ltFn]
  refine endP ?_
  simp (config := { contextual := true, maxSteps := 2000000 }) (disch := omega) [-Int.not_lt, -Int.not_le, -Nat.not_lt, -Nat.not_le, elemK_get, wrapI, leT, leF, ltT, ltF, leTn, leFn, ltTn, ltFn]
end Go.Am
end

section
namespace Go.Am
set_option maxRecDepth 100000
attribute [local irreducible] vc vcIs vcI vcOp vcD vcDp vcDR vcT vcAR stepD stepDp panD neG ne pv J callS callN loopS lookK evK evsK nthK objK boxK rowK boolK intK strK aggK fnK ifcK cellsK cellsLK ldK ldaK iaK srcK stK appK appD isnlD pvK callJ callJD callA
theorem vm_value1_1_ok (m : VmS) (a : Int) (s : List Val) (v : Val) (hs : m.stk = s ++ [v]) (hl : m.stk.length < 2 ^ 40) (r : Val) (e : Int) (hF : Ret prog f_sem_Neg [v.V] (.tup [r.V, vI e])) (he : e = 0) :
    J prog f_vm_value1_1 [.bp (.e 0) 0, vI a] m.obs (· = .ret (.tup []) (({ m with stk := s, junk := v :: m.junk } : VmS).push r).obs') := by
  have hl2 : s.length < 2 ^ 40 := by rw [hs] at hl; simp at hl; omega
  subst he
  refine J_genW fn_vm_value1_1 (by simp [VmS.obs]) ?_
  simp (config := { contextual := true, maxSteps := 2000000 }) (disch := omega) [-Int.not_lt, -Int.not_le, -Nat.not_lt, -Nat.not_le, elemK_get, wrapI, leT, leF, ltT, ltF, leTn, leFn, ltTn, ltFn, cd_vm_value1_1, VmS.obs, VmS.push, hpE]
  refine callS_obj [.e 0, .e 1, .e 2, .e 3, .e 4] rfl rfl (by simp) ?_
  simp
  have hpO := vm_frame_pop_spec m s v hs hl
  try simp [VmS.obs, VmS.obs', machObs] at hpO
  refine callJ_ret 6 hpO (by simp) ?_
  clear hpO
  simp (config := { contextual := true, maxSteps := 2000000 }) (disch := omega) [-Int.not_lt, -Int.not_le, -Nat.not_lt, -Nat.not_le, elemK_get, wrapI, leT, leF, ltT, ltF, leTn, leFn, ltTn, ltFn]
  refine callS_go ?_; simp; refine callA_of (hF) (by simp) ?_
  simp (config := { contextual := true, maxSteps := 2000000 }) (disch := omega) [-Int.not_lt, -Int.not_le, -Nat.not_lt, -Nat.not_le, elemK_get, wrapI, leT, leF, ltT, ltF, leTn, leFn, ltTn, ltFn]
  refine callS_obj [.e 0, .e 1, .e 2, .e 3, .e 4] rfl rfl (by simp) ?_
  simp
  have hpO := vm_frame_push_ok { m with stk := s, junk := v :: m.junk } r hl2
  try simp [VmS.obs, VmS.obs', machObs] at hpO
  refine callJ_ret 10 hpO (by simp) ?_
  clear hpO
  simp (config := { contextual := true, maxSteps := 2000000 }) (disch := omega) [-Int.not_lt, -Int.not_le, -Nat.not_lt, -Nat.not_le, elemK_get, wrapI, leT, leF, ltT, ltF, leTn, leFn, ltTn, ltFn]
  refine endN _ _ (Wk.refl _ _) [.l 10 0] (by simp) ?_
  simp (config := { contextual := true, maxSteps := 2000000 }) (disch := omega) [-Int.not_lt, -Int.not_le, -Nat.not_lt, -Nat.not_le, elemK_get, wrapI, leT, leF, ltT, ltF, leTn, leFn, ltTn, ltFn, VmS.obs']
theorem vm_value1_1_pan (m : VmS) (a : Int) (s : List Val) (v : Val) (hs : m.stk = s ++ [v]) (hl : m.stk.length < 2 ^ 40) (r : Val) (e : Int) (hF : Ret prog f_sem_Neg [v.V] (.tup [r.V, vI e])) (he : e ≠ 0) :
    J prog f_vm_value1_1 [.bp (.e 0) 0, vI a] m.obs (· = .pan (trapV e) { m with stk := s, junk := v :: m.junk }.obs) := by
  have hl2 : s.length < 2 ^ 40 := by rw [hs] at hl; simp at hl; omega
  refine J_genW fn_vm_value1_1 (by simp [VmS.obs]) ?_
  simp (config := { contextual := true, maxSteps := 2000000 }) (disch := omega) [-Int.not_lt, -Int.not_le, -Nat.not_lt, -Nat.not_le, elemK_get, wrapI, leT, leF, ltT, ltF, leTn, leFn, ltTn, ltFn, cd_vm_value1_1, VmS.obs, VmS.push, hpE]
  refine callS_obj [.e 0, .e 1, .e 2, .e 3, .e 4] rfl rfl (by simp) ?_
  simp
  have hpO := vm_frame_pop_spec m s v hs hl
  try simp [VmS.obs, VmS.obs', machObs] at hpO
  refine callJ_ret 6 hpO (by simp) ?_
  clear hpO
  simp (config := { contextual := true, maxSteps := 2000000 }) (disch := omega) [-Int.not_lt, -Int.not_le, -Nat.not_lt, -Nat.not_le, elemK_get, wrapI, leT, leF, ltT, ltF, leTn, leFn, ltTn, ltFn]
  refine callS_go ?_; simp; refine callA_of (hF) (by simp) ?_
  simp (config := { contextual := true, maxSteps := 2000000 }) (disch := omega) [-Int.not_lt, -Int.not_le, -Nat.not_lt, -Nat.not_le, elemK_get, wrapI, leT, leF, ltT, ltF, leTn, leFn, ltTn, ltFn]
  refine callS_obj [.e 0, .e 1, .e 2, .e 3, .e 4] rfl rfl (by simp) ?_
  simp
  have hpO := vm_frame_push_pan { m with stk := s, junk := v :: m.junk } r e he
  try simp [VmS.obs, VmS.obs', machObs] at hpO
  refine callJ_pan hpO ?_
  clear hpO
  simp (config := { contextual := true, maxSteps := 2000000 }) (disch := omega) [-Int.not_lt, -Int.not_le, -Nat.not_lt, -Nat.not_le, elemK_get, wrapI, leT, leF, ltT, ltF, leTn, leFn, ltTn, ltFn]
  refine endP ?_
  simp (config := { contextual := true, maxSteps := 2000000 }) (disch := omega) [-Int.not_lt, -Int.not_le, -Nat.not_lt, -Nat.not_le, elemK_get, wrapI, leT, leF, ltT, ltF, leTn, leFn, ltTn, ltFn]
theorem vm_value1_3_ok (m : VmS) (a : Int) (s : List Val) (v : Val) (hs : m.stk = s ++ [v]) (hl : m.stk.length < 2 ^ 40) (r : Int) (e : Int) (hF : Ret prog f_value_Len [v.V] (.tup [vI r, vI e])) (he : e = 0) :
    J prog f_vm_value1_3 [.bp (.e 0) 0, vI a] m.obs (· = .ret (.tup []) (({ m with stk := s, junk := v :: m.junk } : VmS).push (Val.int r)).obs') := by
  have hl2 : s.length < 2 ^ 40 := by rw [hs] at hl; simp at hl; omega
  subst he
  refine J_genW fn_vm_value1_3 (by simp [VmS.obs]) ?_
  simp (config := { contextual := true, maxSteps := 2000000 }) (disch := omega) [-Int.not_lt, -Int.not_le, -Nat.not_lt, -Nat.not_le, elemK_get, wrapI, leT, leF, ltT, ltF, leTn, leFn, ltTn, ltFn, cd_vm_value1_3, VmS.obs, VmS.push, hpE]
  refine callS_obj [.e 0, .e 1, .e 2, .e 3, .e 4] rfl rfl (by simp) ?_
  simp
  have hpO := vm_frame_pop_spec m s v hs hl
  try simp [VmS.obs, VmS.obs', machObs] at hpO
  refine callJ_ret 8 hpO (by simp) ?_
  clear hpO
  simp (config := { contextual := true, maxSteps := 2000000 }) (disch := omega) [-Int.not_lt, -Int.not_le, -Nat.not_lt, -Nat.not_le, elemK_get, wrapI, leT, leF, ltT, ltF, leTn, leFn, ltTn, ltFn]
  refine callS_go ?_; simp; refine callA_of (hF) (by simp) ?_
  simp (config := { contextual := true, maxSteps := 2000000 }) (disch := omega) [-Int.not_lt, -Int.not_le, -Nat.not_lt, -Nat.not_le, elemK_get, wrapI, leT, leF, ltT, ltF, leTn, leFn, ltTn, ltFn]
  refine callS_go ?_; simp; refine callA_of (value_Int_spec r) (by simp) ?_
  simp (config := { contextual := true, maxSteps := 2000000 }) (disch := omega) [-Int.not_lt, -Int.not_le, -Nat.not_lt, -Nat.not_le, elemK_get, wrapI, leT, leF, ltT, ltF, leTn, leFn, ltTn, ltFn]
  refine callS_obj [.e 0, .e 1, .e 2, .e 3, .e 4] rfl rfl (by simp) ?_
  simp
  have hpO := vm_frame_push_ok { m with stk := s, junk := v :: m.junk } (Val.int r) hl2
  try simp [VmS.obs, VmS.obs', machObs] at hpO
  refine callJ_ret 16 hpO (by simp) ?_
  clear hpO
  simp (config := { contextual := true, maxSteps := 2000000 }) (disch := omega) [-Int.not_lt, -Int.not_le, -Nat.not_lt, -Nat.not_le, elemK_get, wrapI, leT, leF, ltT, ltF, leTn, leFn, ltTn, ltFn]
  refine endN _ _ (Wk.refl _ _) [.l 16 0] (by simp) ?_
  simp (config := { contextual := true, maxSteps := 2000000 }) (disch := omega) [-Int.not_lt, -Int.not_le, -Nat.not_lt, -Nat.not_le, elemK_get, wrapI, leT, leF, ltT, ltF, leTn, leFn, ltTn, ltFn, VmS.obs']
theorem vm_value1_3_pan (m : VmS) (a : Int) (s : List Val) (v : Val) (hs : m.stk = s ++ [v]) (hl : m.stk.length < 2 ^ 40) (r : Int) (e : Int) (hF : Ret prog f_value_Len [v.V] (.tup [vI r, vI e])) (he : e ≠ 0) :
    J prog f_vm_value1_3 [.bp (.e 0) 0, vI a] m.obs (· = .pan (trapV e) { m with stk := s, junk := v :: m.junk }.obs) := by
  have hl2 : s.length < 2 ^ 40 := by rw [hs] at hl; simp at hl; omega
  refine J_genW fn_vm_value1_3 (by simp [VmS.obs]) ?_
  simp (config := { contextual := true, maxSteps := 2000000 }) (disch := omega) [-Int.not_lt, -Int.not_le, -Nat.not_lt, -Nat.not_le, elemK_get, wrapI, leT, leF, ltT, ltF, leTn, leFn, ltTn, ltFn, cd_vm_value1_3, VmS.obs, VmS.push, hpE]
  refine callS_obj [.e 0, .e 1, .e 2, .e 3, .e 4] rfl rfl (by simp) ?_
  simp
  have hpO := vm_frame_pop_spec m s v hs hl
  try simp [VmS.obs, VmS.obs', machObs] at hpO
  refine callJ_ret 8 hpO (by simp) ?_
  clear hpO
  simp (config := { contextual := true, maxSteps := 2000000 }) (disch := omega) [-Int.not_lt, -Int.not_le, -Nat.not_lt, -Nat.not_le, elemK_get, wrapI, leT, leF, ltT, ltF, leTn, leFn, ltTn, ltFn]
  refine callS_go ?_; simp; refine callA_of (hF) (by simp) ?_
  simp (config := { contextual := true, maxSteps := 2000000 }) (disch := omega) [-Int.not_lt, -Int.not_le, -Nat.not_lt, -Nat.not_le, elemK_get, wrapI, leT, leF, ltT, ltF, leTn, leFn, ltTn, ltFn]
  refine callS_go ?_; simp; refine callA_of (value_Int_spec r) (by simp) ?_
  simp (config := { contextual := true, maxSteps := 2000000 }) (disch := omega) [-Int.not_lt, -Int.not_le, -Nat.not_lt, -Nat.not_le, elemK_get, wrapI, leT, leF, ltT, ltF, leTn, leFn, ltTn, ltFn]
  refine callS_obj [.e 0, .e 1, .e 2, .e 3, .e 4] rfl rfl (by simp) ?_
  simp
  have hpO := vm_frame_push_pan { m with stk := s, junk := v :: m.junk } (Val.int r) e he
  try simp [VmS.obs, VmS.obs', machObs] at hpO
  refine callJ_pan hpO ?_
  clear hpO
  simp (config := { contextual := true, maxSteps := 2000000 }) (disch := omega) [-Int.not_lt, -Int.not_le, -Nat.not_lt, -Nat.not_le, elemK_get, wrapI, leT, leF, ltT, ltF, leTn, leFn, ltTn, ltFn]
  refine endP ?_
  simp (config := { contextual := true, maxSteps := 2000000 }) (disch := omega) [-Int.not_lt, -Int.not_le, -Nat.not_lt, -Nat.not_le, elemK_get, wrapI, leT, leF, ltT, ltF, leTn, leFn, ltTn, ltFn]
theorem vm_value1_4_ok (m : VmS) (a : Int) (s : List Val) (v : Val) (hs : m.stk = s ++ [v]) (hl : m.stk.length < 2 ^ 40) (r : Val) (e : Int) (hF : Ret prog f_sem_Str [v.V] (.tup [r.V, vI e])) (he : e = 0) :
    J prog f_vm_value1_4 [.bp (.e 0) 0, vI a] m.obs (· = .ret (.tup []) (({ m with stk := s, junk := v :: m.junk } : VmS).push r).obs') := by
  have hl2 : s.length < 2 ^ 40 := by rw [hs] at hl; simp at hl; omega
  subst he
  refine J_genW fn_vm_value1_4 (by simp [VmS.obs]) ?_
  simp (config := { contextual := true, maxSteps := 2000000 }) (disch := omega) [-Int.not_lt, -Int.not_le, -Nat.not_lt, -Nat.not_le, elemK_get, wrapI, leT, leF, ltT, ltF, leTn, leFn, ltTn, ltFn, cd_vm_value1_4, VmS.obs, VmS.push, hpE]
  refine callS_obj [.e 0, .e 1, .e 2, .e 3, .e 4] rfl rfl (by simp) ?_
  simp
  have hpO := vm_frame_pop_spec m s v hs hl
  try simp [VmS.obs, VmS.obs', machObs] at hpO
  refine callJ_ret 6 hpO (by simp) ?_
  clear hpO
  simp (config := { contextual := true, maxSteps := 2000000 }) (disch := omega) [-Int.not_lt, -Int.not_le, -Nat.not_lt, -Nat.not_le, elemK_get, wrapI, leT, leF, ltT, ltF, leTn, leFn, ltTn, ltFn]
  refine callS_go ?_; simp; refine callA_of (hF) (by simp) ?_
  simp (config := { contextual := true, maxSteps := 2000000 }) (disch := omega) [-Int.not_lt, -Int.not_le, -Nat.not_lt, -Nat.not_le, elemK_get, wrapI, leT, leF, ltT, ltF, leTn, leFn, ltTn, ltFn]
  refine callS_obj [.e 0, .e 1, .e 2, .e 3, .e 4] rfl rfl (by simp) ?_
  simp
  have hpO := vm_frame_push_ok { m with stk := s, junk := v :: m.junk } r hl2
  try simp [VmS.obs, VmS.obs', machObs] at hpO
  refine callJ_ret 10 hpO (by simp) ?_
  clear hpO
  simp (config := { contextual := true, maxSteps := 2000000 }) (disch := omega) [-Int.not_lt, -Int.not_le, -Nat.not_lt, -Nat.not_le, elemK_get, wrapI, leT, leF, ltT, ltF, leTn, leFn, ltTn, ltFn]
  refine endN _ _ (Wk.refl _ _) [.l 10 0] (by simp) ?_
  simp (config := { contextual := true, maxSteps := 2000000 }) (disch := omega) [-Int.not_lt, -Int.not_le, -Nat.not_lt, -Nat.not_le, elemK_get, wrapI, leT, leF, ltT, ltF, leTn, leFn, ltTn, ltFn, VmS.obs']
theorem vm_value1_4_pan (m : VmS) (a : Int) (s : List Val) (v : Val) (hs : m.stk = s ++ [v]) (hl : m.stk.length < 2 ^ 40) (r : Val) (e : Int) (hF : Ret prog f_sem_Str [v.V] (.tup [r.V, vI e])) (he : e ≠ 0) :
    J prog f_vm_value1_4 [.bp (.e 0) 0, vI a] m.obs (· = .pan (trapV e) { m with stk := s, junk := v :: m.junk }.obs) := by
  have hl2 : s.length < 2 ^ 40 := by rw [hs] at hl; simp at hl; omega
  refine J_genW fn_vm_value1_4 (by simp [VmS.obs]) ?_
  simp (config := { contextual := true, maxSteps := 2000000 }) (disch := omega) [-Int.not_lt, -Int.not_le, -Nat.not_lt, -Nat.not_le, elemK_get, wrapI, leT, leF, ltT, ltF, leTn, leFn, ltTn, ltFn, cd_vm_value1_4, VmS.obs, VmS.push, hpE]
  refine callS_obj [.e 0, .e 1, .e 2, .e 3, .e 4] rfl rfl (by simp) ?_
  simp
  have hpO := vm_frame_pop_spec m s v hs hl
  try simp [VmS.obs, VmS.obs', machObs] at hpO
  refine callJ_ret 6 hpO (by simp) ?_
  clear hpO
  simp (config := { contextual := true, maxSteps := 2000000 }) (disch := omega) [-Int.not_lt, -Int.not_le, -Nat.not_lt, -Nat.not_le, elemK_get, wrapI, leT, leF, ltT, ltF, leTn, leFn, ltTn, ltFn]
  refine callS_go ?_; simp; refine callA_of (hF) (by simp) ?_
  simp (config := { contextual := true, maxSteps := 2000000 }) (disch := omega) [-Int.not_lt, -Int.not_le, -Nat.not_lt, -Nat.not_le, elemK_get, wrapI, leT, leF, ltT, ltF, leTn, leFn, ltTn, ltFn]
  refine callS_obj [.e 0, .e 1, .e 2, .e 3, .e 4] rfl rfl (by simp) ?_
  simp
  have hpO := vm_frame_push_pan { m with stk := s, junk := v :: m.junk } r e he
  try simp [VmS.obs, VmS.obs', machObs] at hpO
  refine callJ_pan hpO ?_
  clear hpO
  simp (config := { contextual := true, maxSteps := 2000000 }) (disch := omega) [-Int.not_lt, -Int.not_le, -Nat.not_lt, -Nat.not_le, elemK_get, wrapI, leT, leF, ltT, ltF, leTn, leFn, ltTn, ltFn]
  refine endP ?_
  simp (config := { contextual := true, maxSteps := 2000000 }) (disch := omega) [-Int.not_lt, -Int.not_le, -Nat.not_lt, -Nat.not_le, elemK_get, wrapI, leT, leF, ltT, ltF, leTn, leFn, ltTn, ltFn]
theorem vm_value1_5_ok (m : VmS) (a : Int) (s : List Val) (x : Val) (y : Val) (hs : m.stk = s ++ [x, y]) (hl : m.stk.length < 2 ^ 40) (r : Bool) (e : Int) (hF : Ret prog f_value_Has [x.V, y.V] (.tup [vB r, vI e])) (he : e = 0) :
    J prog f_vm_value1_5 [.bp (.e 0) 0, vI a] m.obs (· = .ret (.tup []) (({ m with stk := s, junk := x :: y :: m.junk } : VmS).push (Val.bool r)).obs') := by
  have hl2 : s.length < 2 ^ 40 := by rw [hs] at hl; simp at hl; omega
  subst he
  refine J_genW fn_vm_value1_5 (by simp [VmS.obs]) ?_
  simp (config := { contextual := true, maxSteps := 2000000 }) (disch := omega) [-Int.not_lt, -Int.not_le, -Nat.not_lt, -Nat.not_le, elemK_get, wrapI, leT, leF, ltT, ltF, leTn, leFn, ltTn, ltFn, cd_vm_value1_5, VmS.obs, VmS.push, hpE]
  refine callS_obj [.e 0, .e 1, .e 2, .e 3, .e 4] rfl rfl (by simp) ?_
  simp
  have hpO := vm_frame_two_spec m s x y hs hl
  try simp [VmS.obs, VmS.obs', machObs] at hpO
  refine callJ_ret 8 hpO (by simp) ?_
  clear hpO
  simp (config := { contextual := true, maxSteps := 2000000 }) (disch := omega) [-Int.not_lt, -Int.not_le, -Nat.not_lt, -Nat.not_le, elemK_get, wrapI, leT, leF, ltT, ltF, leTn, leFn, ltTn, ltFn]
  refine callS_go ?_; simp; refine callA_of (hF) (by simp) ?_
  simp (config := { contextual := true, maxSteps := 2000000 }) (disch := omega) [-Int.not_lt, -Int.not_le, -Nat.not_lt, -Nat.not_le, elemK_get, wrapI, leT, leF, ltT, ltF, leTn, leFn, ltTn, ltFn]
  refine callS_go ?_; simp; refine callA_of (value_Bool_spec r) (by simp) ?_
  simp (config := { contextual := true, maxSteps := 2000000 }) (disch := omega) [-Int.not_lt, -Int.not_le, -Nat.not_lt, -Nat.not_le, elemK_get, wrapI, leT, leF, ltT, ltF, leTn, leFn, ltTn, ltFn]
  refine callS_obj [.e 0, .e 1, .e 2, .e 3, .e 4] rfl rfl (by simp) ?_
  simp
  have hpO := vm_frame_push_ok { m with stk := s, junk := x :: y :: m.junk } (Val.bool r) hl2
  try simp [VmS.obs, VmS.obs', machObs] at hpO
  refine callJ_ret 18 hpO (by simp) ?_
  clear hpO
  simp (config := { contextual := true, maxSteps := 2000000 }) (disch := omega) [-Int.not_lt, -Int.not_le, -Nat.not_lt, -Nat.not_le, elemK_get, wrapI, leT, leF, ltT, ltF, leTn, leFn, ltTn, ltFn]
  refine endN _ _ (Wk.refl _ _) [.l 18 0] (by simp) ?_
  simp (config := { contextual := true, maxSteps := 2000000 }) (disch := omega) [-Int.not_lt, -Int.not_le, -Nat.not_lt, -Nat.not_le, elemK_get, wrapI, leT, leF, ltT, ltF, leTn, leFn, ltTn, ltFn, VmS.obs']
theorem vm_value1_5_pan (m : VmS) (a : Int) (s : List Val) (x : Val) (y : Val) (hs : m.stk = s ++ [x, y]) (hl : m.stk.length < 2 ^ 40) (r : Bool) (e : Int) (hF : Ret prog f_value_Has [x.V, y.V] (.tup [vB r, vI e])) (he : e ≠ 0) :
    J prog f_vm_value1_5 [.bp (.e 0) 0, vI a] m.obs (· = .pan (trapV e) { m with stk := s, junk := x :: y :: m.junk }.obs) := by
  have hl2 : s.length < 2 ^ 40 := by rw [hs] at hl; simp at hl; omega
  refine J_genW fn_vm_value1_5 (by simp [VmS.obs]) ?_
  simp (config := { contextual := true, maxSteps := 2000000 }) (disch := omega) [-Int.not_lt, -Int.not_le, -Nat.not_lt, -Nat.not_le, elemK_get, wrapI, leT, leF, ltT, ltF, leTn, leFn, ltTn, ltFn, cd_vm_value1_5, VmS.obs, VmS.push, hpE]
  refine callS_obj [.e 0, .e 1, .e 2, .e 3, .e 4] rfl rfl (by simp) ?_
  simp
  have hpO := vm_frame_two_spec m s x y hs hl
  try simp [VmS.obs, VmS.obs', machObs] at hpO
  refine callJ_ret 8 hpO (by simp) ?_
  clear hpO
  simp (config := { contextual := true, maxSteps := 2000000 }) (disch := omega) [-Int.not_lt, -Int.not_le, -Nat.not_lt, -Nat.not_le, elemK_get, wrapI, leT, leF, ltT, ltF, leTn, leFn, ltTn, ltFn]
  refine callS_go ?_; simp; refine callA_of (hF) (by simp) ?_
  simp (config := { contextual := true, maxSteps := 2000000 }) (disch := omega) [-Int.not_lt, -Int.not_le, -Nat.not_lt, -Nat.not_le, elemK_get, wrapI, leT, leF, ltT, ltF, leTn, leFn, ltTn, ltFn]
  refine callS_go ?_; simp; refine callA_of (value_Bool_spec r) (by simp) ?_
  simp (config := { contextual := true, maxSteps := 2000000 }) (disch := omega) [-Int.not_lt, -Int.not_le, -Nat.not_lt, -Nat.not_le, elemK_get, wrapI, leT, leF, ltT, ltF, leTn, leFn, ltTn, ltFn]
  refine callS_obj [.e 0, .e 1, .e 2, .e 3, .e 4] rfl rfl (by simp) ?_
  simp
  have hpO := vm_frame_push_pan { m with stk := s, junk := x :: y :: m.junk } (Val.bool r) e he
  try simp [VmS.obs, VmS.obs', machObs] at hpO
  refine callJ_pan hpO ?_
  clear hpO
  simp (config := { contextual := true, maxSteps := 2000000 }) (disch := omega) [-Int.not_lt, -Int.not_le, -Nat.not_lt, -Nat.not_le, elemK_get, wrapI, leT, leF, ltT, ltF, leTn, leFn, ltTn, ltFn]
  refine endP ?_
  simp (config := { contextual := true, maxSteps := 2000000 }) (disch := omega) [-Int.not_lt, -Int.not_le, -Nat.not_lt, -Nat.not_le, elemK_get, wrapI, leT, leF, ltT, ltF, leTn, leFn, ltTn, ltFn]
theorem vm_value1_6_ok (m : VmS) (a : Int) (s : List Val) (x : Val) (y : Val) (hs : m.stk = s ++ [x, y]) (hl : m.stk.length < 2 ^ 40) (r : Val) (e : Int) (hF : Ret prog f_value_At [x.V, y.V] (.tup [r.V, vI e])) (he : e = 0) :
    J prog f_vm_value1_6 [.bp (.e 0) 0, vI a] m.obs (· = .ret (.tup []) (({ m with stk := s, junk := x :: y :: m.junk } : VmS).push r).obs') := by
  have hl2 : s.length < 2 ^ 40 := by rw [hs] at hl; simp at hl; omega
  subst he
  refine J_genW fn_vm_value1_6 (by simp [VmS.obs]) ?_
  simp (config := { contextual := true, maxSteps := 2000000 }) (disch := omega) [-Int.not_lt, -Int.not_le, -Nat.not_lt, -Nat.not_le, elemK_get, wrapI, leT, leF, ltT, ltF, leTn, leFn, ltTn, ltFn, cd_vm_value1_6, VmS.obs, VmS.push, hpE]
  refine callS_obj [.e 0, .e 1, .e 2, .e 3, .e 4] rfl rfl (by simp) ?_
  simp
  have hpO := vm_frame_two_spec m s x y hs hl
  try simp [VmS.obs, VmS.obs', machObs] at hpO
  refine callJ_ret 6 hpO (by simp) ?_
  clear hpO
  simp (config := { contextual := true, maxSteps := 2000000 }) (disch := omega) [-Int.not_lt, -Int.not_le, -Nat.not_lt, -Nat.not_le, elemK_get, wrapI, leT, leF, ltT, ltF, leTn, leFn, ltTn, ltFn]
  refine callS_go ?_; simp; refine callA_of (hF) (by simp) ?_
  simp (config := { contextual := true, maxSteps := 2000000 }) (disch := omega) [-Int.not_lt, -Int.not_le, -Nat.not_lt, -Nat.not_le, elemK_get, wrapI, leT, leF, ltT, ltF, leTn, leFn, ltTn, ltFn]
  refine callS_obj [.e 0, .e 1, .e 2, .e 3, .e 4] rfl rfl (by simp) ?_
  simp
  have hpO := vm_frame_push_ok { m with stk := s, junk := x :: y :: m.junk } r hl2
  try simp [VmS.obs, VmS.obs', machObs] at hpO
  refine callJ_ret 12 hpO (by simp) ?_
  clear hpO
  simp (config := { contextual := true, maxSteps := 2000000 }) (disch := omega) [-Int.not_lt, -Int.not_le, -Nat.not_lt, -Nat.not_le, elemK_get, wrapI, leT, leF, ltT, ltF, leTn, leFn, ltTn, ltFn]
  refine endN _ _ (Wk.refl _ _) [.l 12 0] (by simp) ?_
  simp (config := { contextual := true, maxSteps := 2000000 }) (disch := omega) [-Int.not_lt, -Int.not_le, -Nat.not_lt, -Nat.not_le, elemK_get, wrapI, leT, leF, ltT, ltF, leTn, leFn, ltTn, ltFn, VmS.obs']
theorem vm_value1_6_pan (m : VmS) (a : Int) (s : List Val) (x : Val) (y : Val) (hs : m.stk = s ++ [x, y]) (hl : m.stk.length < 2 ^ 40) (r : Val) (e : Int) (hF : Ret prog f_value_At [x.V, y.V] (.tup [r.V, vI e])) (he : e ≠ 0) :
    J prog f_vm_value1_6 [.bp (.e 0) 0, vI a] m.obs (· = .pan (trapV e) { m with stk := s, junk := x :: y :: m.junk }.obs) := by
  have hl2 : s.length < 2 ^ 40 := by rw [hs] at hl; simp at hl; omega
  refine J_genW fn_vm_value1_6 (by simp [VmS.obs]) ?_
  simp (config := { contextual := true, maxSteps := 2000000 }) (disch := omega) [-Int.not_lt, -Int.not_le, -Nat.not_lt, -Nat.not_le, elemK_get, wrapI, leT, leF, ltT, ltF, leTn, leFn, ltTn, ltFn, cd_vm_value1_6, VmS.obs, VmS.push, hpE]
  refine callS_obj [.e 0, .e 1, .e 2, .e 3, .e 4] rfl rfl (by simp) ?_
  simp
  have hpO := vm_frame_two_spec m s x y hs hl
  try simp [VmS.obs, VmS.obs', machObs] at hpO
  refine callJ_ret 6 hpO (by simp) ?_
  clear hpO
  simp (config := { contextual := true, maxSteps := 2000000 }) (disch := omega) [-Int.not_lt, -Int.not_le, -Nat.not_lt, -Nat.not_le, elemK_get, wrapI, leT, leF, ltT, ltF, leTn, leFn, ltTn, ltFn]
  refine callS_go ?_; simp; refine callA_of (hF) (by simp) ?_
  simp (config := { contextual := true, maxSteps := 2000000 }) (disch := omega) [-Int.not_lt, -Int.not_le, -Nat.not_lt, -Nat.not_le, elemK_get, wrapI, leT, leF, ltT, ltF, leTn, leFn, ltTn, ltFn]
  refine callS_obj [.e 0, .e 1, .e 2, .e 3, .e 4] rfl rfl (by simp) ?_
  simp
  have hpO := vm_frame_push_pan { m with stk := s, junk := x :: y :: m.junk } r e he
  try simp [VmS.obs, VmS.obs', machObs] at hpO
  refine callJ_pan hpO ?_
  clear hpO
  simp (config := { contextual := true, maxSteps := 2000000 }) (disch := omega) [-Int.not_lt, -Int.not_le, -Nat.not_lt, -Nat.not_le, elemK_get, wrapI, leT, leF, ltT, ltF, leTn, leFn, ltTn, ltFn]
  refine endP ?_
  simp (config := { contextual := true, maxSteps := 2000000 }) (disch := omega) [-Int.not_lt, -Int.not_le, -Nat.not_lt, -Nat.not_le, elemK_get, wrapI, leT, leF, ltT, ltF, leTn, leFn, ltTn, ltFn]
theorem vm_value1_7_ok (m : VmS) (a : Int) (s : List Val) (x : Val) (y : Val) (hs : m.stk = s ++ [x, y]) (hl : m.stk.length < 2 ^ 40) (r : Val) (e : Int) (hF : Ret prog f_value_Push [x.V, y.V] (.tup [r.V, vI e])) (he : e = 0) :
    J prog f_vm_value1_7 [.bp (.e 0) 0, vI a] m.obs (· = .ret (.tup []) (({ m with stk := s, junk := x :: y :: m.junk } : VmS).push r).obs') := by
  have hl2 : s.length < 2 ^ 40 := by rw [hs] at hl; simp at hl; omega
  subst he
  refine J_genW fn_vm_value1_7 (by simp [VmS.obs]) ?_
  simp (config := { contextual := true, maxSteps := 2000000 }) (disch := omega) [-Int.not_lt, -Int.not_le, -Nat.not_lt, -Nat.not_le, elemK_get, wrapI, leT, leF, ltT, ltF, leTn, leFn, ltTn, ltFn, cd_vm_value1_7, VmS.obs, VmS.push, hpE]
  refine callS_obj [.e 0, .e 1, .e 2, .e 3, .e 4] rfl rfl (by simp) ?_
  simp
  have hpO := vm_frame_two_spec m s x y hs hl
  try simp [VmS.obs, VmS.obs', machObs] at hpO
  refine callJ_ret 6 hpO (by simp) ?_
  clear hpO
  simp (config := { contextual := true, maxSteps := 2000000 }) (disch := omega) [-Int.not_lt, -Int.not_le, -Nat.not_lt, -Nat.not_le, elemK_get, wrapI, leT, leF, ltT, ltF, leTn, leFn, ltTn, ltFn]
  refine callS_go ?_; simp; refine callA_of (hF) (by simp) ?_
  simp (config := { contextual := true, maxSteps := 2000000 }) (disch := omega) [-Int.not_lt, -Int.not_le, -Nat.not_lt, -Nat.not_le, elemK_get, wrapI, leT, leF, ltT, ltF, leTn, leFn, ltTn, ltFn]
  refine callS_obj [.e 0, .e 1, .e 2, .e 3, .e 4] rfl rfl (by simp) ?_
  simp
  have hpO := vm_frame_push_ok { m with stk := s, junk := x :: y :: m.junk } r hl2
  try simp [VmS.obs, VmS.obs', machObs] at hpO
  refine callJ_ret 12 hpO (by simp) ?_
  clear hpO
  simp (config := { contextual := true, maxSteps := 2000000 }) (disch := omega) [-Int.not_lt, -Int.not_le, -Nat.not_lt, -Nat.not_le, elemK_get, wrapI, leT, leF, ltT, ltF, leTn, leFn, ltTn, ltFn]
  refine endN _ _ (Wk.refl _ _) [.l 12 0] (by simp) ?_
  simp (config := { contextual := true, maxSteps := 2000000 }) (disch := omega) [-Int.not_lt, -Int.not_le, -Nat.not_lt, -Nat.not_le, elemK_get, wrapI, leT, leF, ltT, ltF, leTn, leFn, ltTn, ltFn, VmS.obs']
theorem vm_value1_7_pan (m : VmS) (a : Int) (s : List Val) (x : Val) (y : Val) (hs : m.stk = s ++ [x, y]) (hl : m.stk.length < 2 ^ 40) (r : Val) (e : Int) (hF : Ret prog f_value_Push [x.V, y.V] (.tup [r.V, vI e])) (he : e ≠ 0) :
    J prog f_vm_value1_7 [.bp (.e 0) 0, vI a] m.obs (· = .pan (trapV e) { m with stk := s, junk := x :: y :: m.junk }.obs) := by
  have hl2 : s.length < 2 ^ 40 := by rw [hs] at hl; simp at hl; omega
  refine J_genW fn_vm_value1_7 (by simp [VmS.obs]) ?_
  simp (config := { contextual := true, maxSteps := 2000000 }) (disch := omega) [-Int.not_lt, -Int.not_le, -Nat.not_lt, -Nat.not_le, elemK_get, wrapI, leT, leF, ltT, ltF, leTn, leFn, ltTn, ltFn, cd_vm_value1_7, VmS.obs, VmS.push, hpE]
  refine callS_obj [.e 0, .e 1, .e 2, .e 3, .e 4] rfl rfl (by simp) ?_
  simp
  have hpO := vm_frame_two_spec m s x y hs hl
  try simp [VmS.obs, VmS.obs', machObs] at hpO
  refine callJ_ret 6 hpO (by simp) ?_
  clear hpO
  simp (config := { contextual := true, maxSteps := 2000000 }) (disch := omega) [-Int.not_lt, -Int.not_le, -Nat.not_lt, -Nat.not_le, elemK_get, wrapI, leT, leF, ltT, ltF, leTn, leFn, ltTn, ltFn]
  refine callS_go ?_; simp; refine callA_of (hF) (by simp) ?_
  simp (config := { contextual := true, maxSteps := 2000000 }) (disch := omega) [-Int.not_lt, -Int.not_le, -Nat.not_lt, -Nat.not_le, elemK_get, wrapI, leT, leF, ltT, ltF, leTn, leFn, ltTn, ltFn]
  refine callS_obj [.e 0, .e 1, .e 2, .e 3, .e 4] rfl rfl (by simp) ?_
  simp
  have hpO := vm_frame_push_pan { m with stk := s, junk := x :: y :: m.junk } r e he
  try simp [VmS.obs, VmS.obs', machObs] at hpO
  refine callJ_pan hpO ?_
  clear hpO
  simp (config := { contextual := true, maxSteps := 2000000 }) (disch := omega) [-Int.not_lt, -Int.not_le, -Nat.not_lt, -Nat.not_le, elemK_get, wrapI, leT, leF, ltT, ltF, leTn, leFn, ltTn, ltFn]
  refine endP ?_
  simp (config := { contextual := true, maxSteps := 2000000 }) (disch := omega) [-Int.not_lt, -Int.not_le, -Nat.not_lt, -Nat.not_le, elemK_get, wrapI, leT, leF, ltT, ltF, leTn, leFn, ltTn, ltFn]
theorem vm_value1_9_ok (m : VmS) (a : Int) (s : List Val) (x : Val) (y : Val) (hs : m.stk = s ++ [x, y]) (hl : m.stk.length < 2 ^ 40) (r : Val) (e : Int) (hF : Ret prog f_value_Del [x.V, y.V] (.tup [r.V, vI e])) (he : e = 0) :
    J prog f_vm_value1_9 [.bp (.e 0) 0, vI a] m.obs (· = .ret (.tup []) (({ m with stk := s, junk := x :: y :: m.junk } : VmS).push r).obs') := by
  have hl2 : s.length < 2 ^ 40 := by rw [hs] at hl; simp at hl; omega
  subst he
  refine J_genW fn_vm_value1_9 (by simp [VmS.obs]) ?_
  simp (config := { contextual := true, maxSteps := 2000000 }) (disch := omega) [-Int.not_lt, -Int.not_le, -Nat.not_lt, -Nat.not_le, elemK_get, wrapI, leT, leF, ltT, ltF, leTn, leFn, ltTn, ltFn, cd_vm_value1_9, VmS.obs, VmS.push, hpE]
  refine callS_obj [.e 0, .e 1, .e 2, .e 3, .e 4] rfl rfl (by simp) ?_
  simp
  have hpO := vm_frame_two_spec m s x y hs hl
  try simp [VmS.obs, VmS.obs', machObs] at hpO
  refine callJ_ret 6 hpO (by simp) ?_
  clear hpO
  simp (config := { contextual := true, maxSteps := 2000000 }) (disch := omega) [-Int.not_lt, -Int.not_le, -Nat.not_lt, -Nat.not_le, elemK_get, wrapI, leT, leF, ltT, ltF, leTn, leFn, ltTn, ltFn]
  refine callS_go ?_; simp; refine callA_of (hF) (by simp) ?_
  simp (config := { contextual := true, maxSteps := 2000000 }) (disch := omega) [-Int.not_lt, -Int.not_le, -Nat.not_lt, -Nat.not_le, elemK_get, wrapI, leT, leF, ltT, ltF, leTn, leFn, ltTn, ltFn]
  refine callS_obj [.e 0, .e 1, .e 2, .e 3, .e 4] rfl rfl (by simp) ?_
  simp
  have hpO := vm_frame_push_ok { m with stk := s, junk := x :: y :: m.junk } r hl2
  try simp [VmS.obs, VmS.obs', machObs] at hpO
  refine callJ_ret 12 hpO (by simp) ?_
  clear hpO
  simp (config := { contextual := true, maxSteps := 2000000 }) (disch := omega) [-Int.not_lt, -Int.not_le, -Nat.not_lt, -Nat.not_le, elemK_get, wrapI, leT, leF, ltT, ltF, leTn, leFn, ltTn, ltFn]
  refine endN _ _ (Wk.refl _ _) [.l 12 0] (by simp) ?_
  simp (config := { contextual := true, maxSteps := 2000000 }) (disch := omega) [-Int.not_lt, -Int.not_le, -Nat.not_lt, -Nat.not_le, elemK_get, wrapI, leT, leF, ltT, ltF, leTn, leFn, ltTn, ltFn, VmS.obs']
theorem vm_value1_9_pan (m : VmS) (a : Int) (s : List Val) (x : Val) (y : Val) (hs : m.stk = s ++ [x, y]) (hl : m.stk.length < 2 ^ 40) (r : Val) (e : Int) (hF : Ret prog f_value_Del [x.V, y.V] (.tup [r.V, vI e])) (he : e ≠ 0) :
    J prog f_vm_value1_9 [.bp (.e 0) 0, vI a] m.obs (· = .pan (trapV e) { m with stk := s, junk := x :: y :: m.junk }.obs) := by
  have hl2 : s.length < 2 ^ 40 := by rw [hs] at hl; simp at hl; omega
  refine J_genW fn_vm_value1_9 (by simp [VmS.obs]) ?_
  simp (config := { contextual := true, maxSteps := 2000000 }) (disch := omega) [-Int.not_lt, -Int.not_le, -Nat.not_lt, -Nat.not_le, elemK_get, wrapI, leT, leF, ltT, ltF, leTn, leFn, ltTn, ltFn, cd_vm_value1_9, VmS.obs, VmS.push, hpE]
  refine callS_obj [.e 0, .e 1, .e 2, .e 3, .e 4] rfl rfl (by simp) ?_
  simp
  have hpO := vm_frame_two_spec m s x y hs hl
  try simp [VmS.obs, VmS.obs', machObs] at hpO
  refine callJ_ret 6 hpO (by simp) ?_
  clear hpO
  simp (config := { contextual := true, maxSteps := 2000000 }) (disch := omega) [-Int.not_lt, -Int.not_le, -Nat.not_lt, -Nat.not_le, elemK_get, wrapI, leT, leF, ltT, ltF, leTn, leFn, ltTn, ltFn]
  refine callS_go ?_; simp; refine callA_of (hF) (by simp) ?_
  simp (config := { contextual := true, maxSteps := 2000000 }) (disch := omega) [-Int.not_lt, -Int.not_le, -Nat.not_lt, -Nat.not_le, elemK_get, wrapI, leT, leF, ltT, ltF, leTn, leFn, ltTn, ltFn]
  refine callS_obj [.e 0, .e 1, .e 2, .e 3, .e 4] rfl rfl (by simp) ?_
  simp
  have hpO := vm_frame_push_pan { m with stk := s, junk := x :: y :: m.junk } r e he
  try simp [VmS.obs, VmS.obs', machObs] at hpO
  refine callJ_pan hpO ?_
  clear hpO
  simp (config := { contextual := true, maxSteps := 2000000 }) (disch := omega) [-Int.not_lt, -Int.not_le, -Nat.not_lt, -Nat.not_le, elemK_get, wrapI, leT, leF, ltT, ltF, leTn, leFn, ltTn, ltFn]
  refine endP ?_
  simp (config := { contextual := true, maxSteps := 2000000 }) (disch := omega) [-Int.not_lt, -Int.not_le, -Nat.not_lt, -Nat.not_le, elemK_get, wrapI, leT, leF, ltT, ltF, leTn, leFn, ltTn, ltFn]
theorem vm_table_9_ok (m : VmS) (a : Int) (s : List Val) (x : Val) (y : Val) (hs : m.stk = s ++ [x, y]) (hl : m.stk.length < 2 ^ 40) (r : Val) (e : Int) (hF : Ret prog f_sem_Binary [vI a, x.V, y.V] (.tup [r.V, vI e])) (he : e = 0) :
    J prog f_vm_table_9 [.bp (.e 0) 0, vI a] m.obs (· = .ret (.tup []) (({ m with stk := s, junk := x :: y :: m.junk } : VmS).push r).obs') := by
  have hl2 : s.length < 2 ^ 40 := by rw [hs] at hl; simp at hl; omega
  subst he
  refine J_genW fn_vm_table_9 (by simp [VmS.obs]) ?_
  simp (config := { contextual := true, maxSteps := 2000000 }) (disch := omega) [-Int.not_lt, -Int.not_le, -Nat.not_lt, -Nat.not_le, elemK_get, wrapI, leT, leF, ltT, ltF, leTn, leFn, ltTn, ltFn, cd_vm_table_9, VmS.obs, VmS.push, hpE]
  refine callS_obj [.e 0, .e 1, .e 2, .e 3, .e 4] rfl rfl (by simp) ?_
  simp
  have hpO := vm_frame_two_spec m s x y hs hl
  try simp [VmS.obs, VmS.obs', machObs] at hpO
  refine callJ_ret 8 hpO (by simp) ?_
  clear hpO
  simp (config := { contextual := true, maxSteps := 2000000 }) (disch := omega) [-Int.not_lt, -Int.not_le, -Nat.not_lt, -Nat.not_le, elemK_get, wrapI, leT, leF, ltT, ltF, leTn, leFn, ltTn, ltFn]
  refine callS_go ?_; simp; refine callA_of (hF) (by simp) ?_
  simp (config := { contextual := true, maxSteps := 2000000 }) (disch := omega) [-Int.not_lt, -Int.not_le, -Nat.not_lt, -Nat.not_le, elemK_get, wrapI, leT, leF, ltT, ltF, leTn, leFn, ltTn, ltFn]
  refine callS_obj [.e 0, .e 1, .e 2, .e 3, .e 4] rfl rfl (by simp) ?_
  simp
  have hpO := vm_frame_push_ok { m with stk := s, junk := x :: y :: m.junk } r hl2
  try simp [VmS.obs, VmS.obs', machObs] at hpO
  refine callJ_ret 18 hpO (by simp) ?_
  clear hpO
  simp (config := { contextual := true, maxSteps := 2000000 }) (disch := omega) [-Int.not_lt, -Int.not_le, -Nat.not_lt, -Nat.not_le, elemK_get, wrapI, leT, leF, ltT, ltF, leTn, leFn, ltTn, ltFn]
  refine endN _ _ (Wk.refl _ _) [.l 18 0] (by simp) ?_
  simp (config := { contextual := true, maxSteps := 2000000 }) (disch := omega) [-Int.not_lt, -Int.not_le, -Nat.not_lt, -Nat.not_le, elemK_get, wrapI, leT, leF, ltT, ltF, leTn, leFn, ltTn, ltFn, VmS.obs']
theorem vm_table_9_pan (m : VmS) (a : Int) (s : List Val) (x : Val) (y : Val) (hs : m.stk = s ++ [x, y]) (hl : m.stk.length < 2 ^ 40) (r : Val) (e : Int) (hF : Ret prog f_sem_Binary [vI a, x.V, y.V] (.tup [r.V, vI e])) (he : e ≠ 0) :
    J prog f_vm_table_9 [.bp (.e 0) 0, vI a] m.obs (· = .pan (trapV e) { m with stk := s, junk := x :: y :: m.junk }.obs) := by
  have hl2 : s.length < 2 ^ 40 := by rw [hs] at hl; simp at hl; omega
  refine J_genW fn_vm_table_9 (by simp [VmS.obs]) ?_
  simp (config := { contextual := true, maxSteps := 2000000 }) (disch := omega) [-Int.not_lt, -Int.not_le, -Nat.not_lt, -Nat.not_le, elemK_get, wrapI, leT, leF, ltT, ltF, leTn, leFn, ltTn, ltFn, cd_vm_table_9, VmS.obs, VmS.push, hpE]
  refine callS_obj [.e 0, .e 1, .e 2, .e 3, .e 4] rfl rfl (by simp) ?_
  simp
  have hpO := vm_frame_two_spec m s x y hs hl
  try simp [VmS.obs, VmS.obs', machObs] at hpO
  refine callJ_ret 8 hpO (by simp) ?_
  clear hpO
  simp (config := { contextual := true, maxSteps := 2000000 }) (disch := omega) [-Int.not_lt, -Int.not_le, -Nat.not_lt, -Nat.not_le, elemK_get, wrapI, leT, leF, ltT, ltF, leTn, leFn, ltTn, ltFn]
  refine callS_go ?_; simp; refine callA_of (hF) (by simp) ?_
  simp (config := { contextual := true, maxSteps := 2000000 }) (disch := omega) [-Int.not_lt, -Int.not_le, -Nat.not_lt, -Nat.not_le, elemK_get, wrapI, leT, leF, ltT, ltF, leTn, leFn, ltTn, ltFn]
  refine callS_obj [.e 0, .e 1, .e 2, .e 3, .e 4] rfl rfl (by simp) ?_
  simp
  have hpO := vm_frame_push_pan { m with stk := s, junk := x :: y :: m.junk } r e he
  try simp [VmS.obs, VmS.obs', machObs] at hpO
  refine callJ_pan hpO ?_
  clear hpO
  simp (config := { contextual := true, maxSteps := 2000000 }) (disch := omega) [-Int.not_lt, -Int.not_le, -Nat.not_lt, -Nat.not_le, elemK_get, wrapI, leT, leF, ltT, ltF, leTn, leFn, ltTn, ltFn]
  refine endP ?_
  simp (config := { contextual := true, maxSteps := 2000000 }) (disch := omega) [-Int.not_lt, -Int.not_le, -Nat.not_lt, -Nat.not_le, elemK_get, wrapI, leT, leF, ltT, ltF, leTn, leFn, ltTn, ltFn]
end Go.Am
end

section
namespace Go.Am
set_option maxRecDepth 100000
attribute [local irreducible] vc vcIs vcI vcOp vcD vcDp vcDR vcT vcAR stepD stepDp panD neG ne pv J callS callN loopS lookK evK evsK nthK objK boxK rowK boolK intK strK aggK fnK ifcK cellsK cellsLK ldK ldaK iaK srcK stK appK appD isnlD pvK callJ callJD callA
theorem vm_value1_2_ok (m : VmS) (a : Int) (s : List Val) (v : Val) (hs : m.stk = s ++ [v]) (hl : m.stk.length < 2 ^ 40) (hv : v.kind = 2) :
    J prog f_vm_value1_2 [.bp (.e 0) 0, vI a] m.obs (· = .ret (.tup []) (({ m with stk := s, junk := v :: m.junk } : VmS).push (Val.bool (!decide (v.num = 1)))).obs') := by
  have hl2 : s.length < 2 ^ 40 := by rw [hs] at hl; simp at hl; omega
  refine J_genW fn_vm_value1_2 (by simp [VmS.obs]) ?_
  simp (config := { contextual := true, maxSteps := 2000000 }) (disch := omega) [-Int.not_lt, -Int.not_le, -Nat.not_lt, -Nat.not_le, elemK_get, wrapI, leT, leF, ltT, ltF, leTn, leFn, ltTn, ltFn, cd_vm_value1_2, VmS.obs, VmS.push, hpE]
  refine callS_obj [.e 0, .e 1, .e 2, .e 3, .e 4] rfl rfl (by simp) ?_
  simp
  have hpO := vm_frame_truth_ok m s v hs hv hl
  try simp [VmS.obs, VmS.obs', machObs] at hpO
  refine callJ_ret 6 hpO (by simp) ?_
  clear hpO
  simp (config := { contextual := true, maxSteps := 2000000 }) (disch := omega) [-Int.not_lt, -Int.not_le, -Nat.not_lt, -Nat.not_le, elemK_get, wrapI, leT, leF, ltT, ltF, leTn, leFn, ltTn, ltFn]
  refine callS_go ?_; simp; refine callA_of (value_Bool_spec (!decide (v.num = 1))) (by simp) ?_
  simp (config := { contextual := true, maxSteps := 2000000 }) (disch := omega) [-Int.not_lt, -Int.not_le, -Nat.not_lt, -Nat.not_le, elemK_get, wrapI, leT, leF, ltT, ltF, leTn, leFn, ltTn, ltFn]
  refine callS_obj [.e 0, .e 1, .e 2, .e 3, .e 4] rfl rfl (by simp) ?_
  simp
  have hpO := vm_frame_push_ok { m with stk := s, junk := v :: m.junk } (Val.bool (!decide (v.num = 1))) hl2
  try simp [VmS.obs, VmS.obs', machObs] at hpO
  refine callJ_ret 9 hpO (by simp) ?_
  clear hpO
  simp (config := { contextual := true, maxSteps := 2000000 }) (disch := omega) [-Int.not_lt, -Int.not_le, -Nat.not_lt, -Nat.not_le, elemK_get, wrapI, leT, leF, ltT, ltF, leTn, leFn, ltTn, ltFn]
  refine endN _ _ (Wk.refl _ _) [.l 9 0] (by simp) ?_
  simp (config := { contextual := true, maxSteps := 2000000 }) (disch := omega) [-Int.not_lt, -Int.not_le, -Nat.not_lt, -Nat.not_le, elemK_get, wrapI, leT, leF, ltT, ltF, leTn, leFn, ltTn, ltFn, VmS.obs']
theorem vm_value1_2_bad (m : VmS) (a : Int) (s : List Val) (v : Val) (hs : m.stk = s ++ [v]) (hl : m.stk.length < 2 ^ 40) (hv : v.kind ≠ 2) :
    J prog f_vm_value1_2 [.bp (.e 0) 0, vI a] m.obs (· = .pan (trapV 40) { m with stk := s, junk := v :: m.junk }.obs) := by
  refine J_genW fn_vm_value1_2 (by simp [VmS.obs]) ?_
  simp (config := { contextual := true, maxSteps := 2000000 }) (disch := omega) [-Int.not_lt, -Int.not_le, -Nat.not_lt, -Nat.not_le, elemK_get, wrapI, leT, leF, ltT, ltF, leTn, leFn, ltTn, ltFn, cd_vm_value1_2, VmS.obs, hpE]
  refine callS_obj [.e 0, .e 1, .e 2, .e 3, .e 4] rfl rfl (by simp) ?_
  simp
  have hpO := vm_frame_truth_pan m s v hs hv hl
  try simp [VmS.obs, VmS.obs', machObs] at hpO
  refine callJ_pan hpO ?_
  clear hpO
  simp (config := { contextual := true, maxSteps := 2000000 }) (disch := omega) [-Int.not_lt, -Int.not_le, -Nat.not_lt, -Nat.not_le, elemK_get, wrapI, leT, leF, ltT, ltF, leTn, leFn, ltTn, ltFn]
  refine endP ?_
  simp (config := { contextual := true, maxSteps := 2000000 }) (disch := omega) [-Int.not_lt, -Int.not_le, -Nat.not_lt, -Nat.not_le, elemK_get, wrapI, leT, leF, ltT, ltF, leTn, leFn, ltTn, ltFn]
theorem vm_value1_8_ok (m : VmS) (a : Int) (s : List Val) (x y z : Val) (hs : m.stk = s ++ [x, y, z]) (hl : m.stk.length < 2 ^ 40) (r : Val) (hF : Ret prog f_value_Put [x.V, y.V, z.V] (.tup [r.V, vI 0])) :
    J prog f_vm_value1_8 [.bp (.e 0) 0, vI a] m.obs (· = .ret (.tup []) (({ m with stk := s, junk := x :: y :: z :: m.junk } : VmS).push r).obs') := by
  have hl2 : s.length < 2 ^ 40 := by rw [hs] at hl; simp at hl; omega
  have hl3 : (s ++ [x, y]).length < 2 ^ 40 := by rw [hs] at hl; simp at hl ⊢; omega
  refine J_genW fn_vm_value1_8 (by simp [VmS.obs]) ?_
  simp (config := { contextual := true, maxSteps := 2000000 }) (disch := omega) [-Int.not_lt, -Int.not_le, -Nat.not_lt, -Nat.not_le, elemK_get, wrapI, leT, leF, ltT, ltF, leTn, leFn, ltTn, ltFn, cd_vm_value1_8, VmS.obs, VmS.push, hpE]
  refine callS_obj [.e 0, .e 1, .e 2, .e 3, .e 4] rfl rfl (by simp) ?_
  simp
  have hpO := vm_frame_pop_spec m (s ++ [x, y]) z (by simp [hs]) hl
  try simp [VmS.obs, VmS.obs', machObs] at hpO
  refine callJ_ret 8 hpO (by simp) ?_
  clear hpO
  simp (config := { contextual := true, maxSteps := 2000000 }) (disch := omega) [-Int.not_lt, -Int.not_le, -Nat.not_lt, -Nat.not_le, elemK_get, wrapI, leT, leF, ltT, ltF, leTn, leFn, ltTn, ltFn]
  refine callS_obj [.e 0, .e 1, .e 2, .e 3, .e 4] rfl rfl (by simp) ?_
  simp
  have hpO := vm_frame_two_spec { m with stk := s ++ [x, y], junk := z :: m.junk } s x y rfl hl3
  try simp [VmS.obs, VmS.obs', machObs] at hpO
  refine callJ_ret 11 hpO (by simp) ?_
  clear hpO
  simp (config := { contextual := true, maxSteps := 2000000 }) (disch := omega) [-Int.not_lt, -Int.not_le, -Nat.not_lt, -Nat.not_le, elemK_get, wrapI, leT, leF, ltT, ltF, leTn, leFn, ltTn, ltFn]
  refine callS_go ?_; simp; refine callA_of (hF) (by simp) ?_
  simp (config := { contextual := true, maxSteps := 2000000 }) (disch := omega) [-Int.not_lt, -Int.not_le, -Nat.not_lt, -Nat.not_le, elemK_get, wrapI, leT, leF, ltT, ltF, leTn, leFn, ltTn, ltFn]
  refine callS_obj [.e 0, .e 1, .e 2, .e 3, .e 4] rfl rfl (by simp) ?_
  simp
  have hpO := vm_frame_push_ok { m with stk := s, junk := x :: y :: z :: m.junk } r hl2
  try simp [VmS.obs, VmS.obs', machObs] at hpO
  refine callJ_ret 21 hpO (by simp) ?_
  clear hpO
  simp (config := { contextual := true, maxSteps := 2000000 }) (disch := omega) [-Int.not_lt, -Int.not_le, -Nat.not_lt, -Nat.not_le, elemK_get, wrapI, leT, leF, ltT, ltF, leTn, leFn, ltTn, ltFn]
  refine endN _ _ (Wk.refl _ _) [.l 21 0] (by simp) ?_
  simp (config := { contextual := true, maxSteps := 2000000 }) (disch := omega) [-Int.not_lt, -Int.not_le, -Nat.not_lt, -Nat.not_le, elemK_get, wrapI, leT, leF, ltT, ltF, leTn, leFn, ltTn, ltFn, VmS.obs']
theorem vm_value1_8_pan (m : VmS) (a : Int) (s : List Val) (x y z : Val) (hs : m.stk = s ++ [x, y, z]) (hl : m.stk.length < 2 ^ 40) (r : Val) (e : Int) (hF : Ret prog f_value_Put [x.V, y.V, z.V] (.tup [r.V, vI e])) (he : e ≠ 0) :
    J prog f_vm_value1_8 [.bp (.e 0) 0, vI a] m.obs (· = .pan (trapV e) { m with stk := s, junk := x :: y :: z :: m.junk }.obs) := by
  have hl3 : (s ++ [x, y]).length < 2 ^ 40 := by rw [hs] at hl; simp at hl ⊢; omega
  refine J_genW fn_vm_value1_8 (by simp [VmS.obs]) ?_
  simp (config := { contextual := true, maxSteps := 2000000 }) (disch := omega) [-Int.not_lt, -Int.not_le, -Nat.not_lt, -Nat.not_le, elemK_get, wrapI, leT, leF, ltT, ltF, leTn, leFn, ltTn, ltFn, cd_vm_value1_8, VmS.obs, hpE]
  refine callS_obj [.e 0, .e 1, .e 2, .e 3, .e 4] rfl rfl (by simp) ?_
  simp
  have hpO := vm_frame_pop_spec m (s ++ [x, y]) z (by simp [hs]) hl
  try simp [VmS.obs, VmS.obs', machObs] at hpO
  refine callJ_ret 8 hpO (by simp) ?_
  clear hpO
  simp (config := { contextual := true, maxSteps := 2000000 }) (disch := omega) [-Int.not_lt, -Int.not_le, -Nat.not_lt, -Nat.not_le, elemK_get, wrapI, leT, leF, ltT, ltF, leTn, leFn, ltTn, ltFn]
  refine callS_obj [.e 0, .e 1, .e 2, .e 3, .e 4] rfl rfl (by simp) ?_
  simp
  have hpO := vm_frame_two_spec { m with stk := s ++ [x, y], junk := z :: m.junk } s x y rfl hl3
  try simp [VmS.obs, VmS.obs', machObs] at hpO
  refine callJ_ret 11 hpO (by simp) ?_
  clear hpO
  simp (config := { contextual := true, maxSteps := 2000000 }) (disch := omega) [-Int.not_lt, -Int.not_le, -Nat.not_lt, -Nat.not_le, elemK_get, wrapI, leT, leF, ltT, ltF, leTn, leFn, ltTn, ltFn]
  refine callS_go ?_; simp; refine callA_of (hF) (by simp) ?_
  simp (config := { contextual := true, maxSteps := 2000000 }) (disch := omega) [-Int.not_lt, -Int.not_le, -Nat.not_lt, -Nat.not_le, elemK_get, wrapI, leT, leF, ltT, ltF, leTn, leFn, ltTn, ltFn]
  refine callS_obj [.e 0, .e 1, .e 2, .e 3, .e 4] rfl rfl (by simp) ?_
  simp
  have hpO := vm_frame_push_pan { m with stk := s, junk := x :: y :: z :: m.junk } r e he
  try simp [VmS.obs, VmS.obs', machObs] at hpO
  refine callJ_pan hpO ?_
  clear hpO
  simp (config := { contextual := true, maxSteps := 2000000 }) (disch := omega) [-Int.not_lt, -Int.not_le, -Nat.not_lt, -Nat.not_le, elemK_get, wrapI, leT, leF, ltT, ltF, leTn, leFn, ltTn, ltFn]
  refine endP ?_
  simp (config := { contextual := true, maxSteps := 2000000 }) (disch := omega) [-Int.not_lt, -Int.not_le, -Nat.not_lt, -Nat.not_le, elemK_get, wrapI, leT, leF, ltT, ltF, leTn, leFn, ltTn, ltFn]
end Go.Am
end

section
namespace Go.Am
set_option maxRecDepth 100000
attribute [local irreducible] vc vcIs vcI vcOp vcD vcDp vcDR vcT vcAR stepD stepDp panD neG ne pv J callS callN loopS lookK evK evsK nthK objK boxK rowK boolK intK strK aggK fnK ifcK cellsK cellsLK ldK ldaK iaK srcK stK appK appD isnlD pvK callJ callJD callA
theorem vm_value1_1_is : Ret prog f_vm_value1 [vI 13] (.fn f_vm_value1_1 []) := by
  refine J_pure fn_vm_value1 (by simp) ?_
  simp (config := { contextual := true, maxSteps := 2000000 }) (disch := omega) [-Int.not_lt, -Int.not_le, -Nat.not_lt, -Nat.not_le, elemK_get, wrapI, leT, leF, ltT, ltF, leTn, leFn, ltTn, ltFn, cd_vm_value1]
theorem vm_value1_2_is : Ret prog f_vm_value1 [vI 14] (.fn f_vm_value1_2 []) := by
  refine J_pure fn_vm_value1 (by simp) ?_
  simp (config := { contextual := true, maxSteps := 2000000 }) (disch := omega) [-Int.not_lt, -Int.not_le, -Nat.not_lt, -Nat.not_le, elemK_get, wrapI, leT, leF, ltT, ltF, leTn, leFn, ltTn, ltFn, cd_vm_value1]
theorem vm_value1_3_is : Ret prog f_vm_value1 [vI 15] (.fn f_vm_value1_3 []) := by
  refine J_pure fn_vm_value1 (by simp) ?_
  simp (config := { contextual := true, maxSteps := 2000000 }) (disch := omega) [-Int.not_lt, -Int.not_le, -Nat.not_lt, -Nat.not_le, elemK_get, wrapI, leT, leF, ltT, ltF, leTn, leFn, ltTn, ltFn, cd_vm_value1]
theorem vm_value1_4_is : Ret prog f_vm_value1 [vI 16] (.fn f_vm_value1_4 []) := by
  refine J_pure fn_vm_value1 (by simp) ?_
  simp (config := { contextual := true, maxSteps := 2000000 }) (disch := omega) [-Int.not_lt, -Int.not_le, -Nat.not_lt, -Nat.not_le, elemK_get, wrapI, leT, leF, ltT, ltF, leTn, leFn, ltTn, ltFn, cd_vm_value1]
theorem vm_value1_5_is : Ret prog f_vm_value1 [vI 17] (.fn f_vm_value1_5 []) := by
  refine J_pure fn_vm_value1 (by simp) ?_
  simp (config := { contextual := true, maxSteps := 2000000 }) (disch := omega) [-Int.not_lt, -Int.not_le, -Nat.not_lt, -Nat.not_le, elemK_get, wrapI, leT, leF, ltT, ltF, leTn, leFn, ltTn, ltFn, cd_vm_value1]
theorem vm_value1_6_is : Ret prog f_vm_value1 [vI 18] (.fn f_vm_value1_6 []) := by
  refine J_pure fn_vm_value1 (by simp) ?_
  simp (config := { contextual := true, maxSteps := 2000000 }) (disch := omega) [-Int.not_lt, -Int.not_le, -Nat.not_lt, -Nat.not_le, elemK_get, wrapI, leT, leF, ltT, ltF, leTn, leFn, ltTn, ltFn, cd_vm_value1]
theorem vm_value1_7_is : Ret prog f_vm_value1 [vI 19] (.fn f_vm_value1_7 []) := by
  refine J_pure fn_vm_value1 (by simp) ?_
  simp (config := { contextual := true, maxSteps := 2000000 }) (disch := omega) [-Int.not_lt, -Int.not_le, -Nat.not_lt, -Nat.not_le, elemK_get, wrapI, leT, leF, ltT, ltF, leTn, leFn, ltTn, ltFn, cd_vm_value1]
theorem vm_value1_8_is : Ret prog f_vm_value1 [vI 20] (.fn f_vm_value1_8 []) := by
  refine J_pure fn_vm_value1 (by simp) ?_
  simp (config := { contextual := true, maxSteps := 2000000 }) (disch := omega) [-Int.not_lt, -Int.not_le, -Nat.not_lt, -Nat.not_le, elemK_get, wrapI, leT, leF, ltT, ltF, leTn, leFn, ltTn, ltFn, cd_vm_value1]
theorem vm_value1_9_is : Ret prog f_vm_value1 [vI 21] (.fn f_vm_value1_9 []) := by
  refine J_pure fn_vm_value1 (by simp) ?_
  simp (config := { contextual := true, maxSteps := 2000000 }) (disch := omega) [-Int.not_lt, -Int.not_le, -Nat.not_lt, -Nat.not_le, elemK_get, wrapI, leT, leF, ltT, ltF, leTn, leFn, ltTn, ltFn, cd_vm_value1]
theorem vm_table_is_1 : Ret prog f_vm_table [vI 1] (.fn f_vm_table_1 []) := by
  refine J_pure fn_vm_table (by simp) ?_
  simp (config := { contextual := true, maxSteps := 2000000 }) (disch := omega) [-Int.not_lt, -Int.not_le, -Nat.not_lt, -Nat.not_le, elemK_get, wrapI, leT, leF, ltT, ltF, leTn, leFn, ltTn, ltFn, cd_vm_table]
theorem vm_table_is_2 : Ret prog f_vm_table [vI 2] (.fn f_vm_table_2 []) := by
  refine J_pure fn_vm_table (by simp) ?_
  simp (config := { contextual := true, maxSteps := 2000000 }) (disch := omega) [-Int.not_lt, -Int.not_le, -Nat.not_lt, -Nat.not_le, elemK_get, wrapI, leT, leF, ltT, ltF, leTn, leFn, ltTn, ltFn, cd_vm_table]
theorem vm_table_is_3 : Ret prog f_vm_table [vI 3] (.fn f_vm_table_3 []) := by
  refine J_pure fn_vm_table (by simp) ?_
  simp (config := { contextual := true, maxSteps := 2000000 }) (disch := omega) [-Int.not_lt, -Int.not_le, -Nat.not_lt, -Nat.not_le, elemK_get, wrapI, leT, leF, ltT, ltF, leTn, leFn, ltTn, ltFn, cd_vm_table]
theorem vm_table_is_4 : Ret prog f_vm_table [vI 4] (.fn f_vm_table_4 []) := by
  refine J_pure fn_vm_table (by simp) ?_
  simp (config := { contextual := true, maxSteps := 2000000 }) (disch := omega) [-Int.not_lt, -Int.not_le, -Nat.not_lt, -Nat.not_le, elemK_get, wrapI, leT, leF, ltT, ltF, leTn, leFn, ltTn, ltFn, cd_vm_table]
theorem vm_table_is_5 : Ret prog f_vm_table [vI 5] (.fn f_vm_table_5 []) := by
  refine J_pure fn_vm_table (by simp) ?_
  simp (config := { contextual := true, maxSteps := 2000000 }) (disch := omega) [-Int.not_lt, -Int.not_le, -Nat.not_lt, -Nat.not_le, elemK_get, wrapI, leT, leF, ltT, ltF, leTn, leFn, ltTn, ltFn, cd_vm_table]
theorem vm_table_is_6 : Ret prog f_vm_table [vI 6] (.fn f_vm_table_6 []) := by
  refine J_pure fn_vm_table (by simp) ?_
  simp (config := { contextual := true, maxSteps := 2000000 }) (disch := omega) [-Int.not_lt, -Int.not_le, -Nat.not_lt, -Nat.not_le, elemK_get, wrapI, leT, leF, ltT, ltF, leTn, leFn, ltTn, ltFn, cd_vm_table]
theorem vm_table_is_7 : Ret prog f_vm_table [vI 7] (.fn f_vm_frame_jump []) := by
  refine J_pure fn_vm_table (by simp) ?_
  simp (config := { contextual := true, maxSteps := 2000000 }) (disch := omega) [-Int.not_lt, -Int.not_le, -Nat.not_lt, -Nat.not_le, elemK_get, wrapI, leT, leF, ltT, ltF, leTn, leFn, ltTn, ltFn, cd_vm_table]
theorem vm_table_is_8 : Ret prog f_vm_table [vI 8] (.fn f_vm_table_7 []) := by
  refine J_pure fn_vm_table (by simp) ?_
  simp (config := { contextual := true, maxSteps := 2000000 }) (disch := omega) [-Int.not_lt, -Int.not_le, -Nat.not_lt, -Nat.not_le, elemK_get, wrapI, leT, leF, ltT, ltF, leTn, leFn, ltTn, ltFn, cd_vm_table]
theorem vm_table_is_9 : Ret prog f_vm_table [vI 9] (.fn f_vm_frame_enter []) := by
  refine J_pure fn_vm_table (by simp) ?_
  simp (config := { contextual := true, maxSteps := 2000000 }) (disch := omega) [-Int.not_lt, -Int.not_le, -Nat.not_lt, -Nat.not_le, elemK_get, wrapI, leT, leF, ltT, ltF, leTn, leFn, ltTn, ltFn, cd_vm_table]
theorem vm_table_is_11 : Ret prog f_vm_table [vI 11] (.fn f_vm_table_8 []) := by
  refine J_pure fn_vm_table (by simp) ?_
  simp (config := { contextual := true, maxSteps := 2000000 }) (disch := omega) [-Int.not_lt, -Int.not_le, -Nat.not_lt, -Nat.not_le, elemK_get, wrapI, leT, leF, ltT, ltF, leTn, leFn, ltTn, ltFn, cd_vm_table]
theorem vm_table_is_12 : Ret prog f_vm_table [vI 12] (.fn f_vm_table_9 []) := by
  refine J_pure fn_vm_table (by simp) ?_
  simp (config := { contextual := true, maxSteps := 2000000 }) (disch := omega) [-Int.not_lt, -Int.not_le, -Nat.not_lt, -Nat.not_le, elemK_get, wrapI, leT, leF, ltT, ltF, leTn, leFn, ltTn, ltFn, cd_vm_table]
theorem vm_table_is_13 : Ret prog f_vm_table [vI 13] (.fn f_vm_value1_1 []) := by
  refine J_pure fn_vm_table (by simp) ?_
  simp (config := { contextual := true, maxSteps := 2000000 }) (disch := omega) [-Int.not_lt, -Int.not_le, -Nat.not_lt, -Nat.not_le, elemK_get, wrapI, leT, leF, ltT, ltF, leTn, leFn, ltTn, ltFn, cd_vm_table]
  refine callS_go ?_; simp; refine callA_of (vm_value1_1_is) (by simp) ?_
  simp (config := { contextual := true, maxSteps := 2000000 }) (disch := omega) [-Int.not_lt, -Int.not_le, -Nat.not_lt, -Nat.not_le, elemK_get, wrapI, leT, leF, ltT, ltF, leTn, leFn, ltTn, ltFn]
theorem vm_table_is_14 : Ret prog f_vm_table [vI 14] (.fn f_vm_value1_2 []) := by
  refine J_pure fn_vm_table (by simp) ?_
  simp (config := { contextual := true, maxSteps := 2000000 }) (disch := omega) [-Int.not_lt, -Int.not_le, -Nat.not_lt, -Nat.not_le, elemK_get, wrapI, leT, leF, ltT, ltF, leTn, leFn, ltTn, ltFn, cd_vm_table]
  refine callS_go ?_; simp; refine callA_of (vm_value1_2_is) (by simp) ?_
  simp (config := { contextual := true, maxSteps := 2000000 }) (disch := omega) [-Int.not_lt, -Int.not_le, -Nat.not_lt, -Nat.not_le, elemK_get, wrapI, leT, leF, ltT, ltF, leTn, leFn, ltTn, ltFn]
theorem vm_table_is_15 : Ret prog f_vm_table [vI 15] (.fn f_vm_value1_3 []) := by
  refine J_pure fn_vm_table (by simp) ?_
  simp (config := { contextual := true, maxSteps := 2000000 }) (disch := omega) [-Int.not_lt, -Int.not_le, -Nat.not_lt, -Nat.not_le, elemK_get, wrapI, leT, leF, ltT, ltF, leTn, leFn, ltTn, ltFn, cd_vm_table]
  refine callS_go ?_; simp; refine callA_of (vm_value1_3_is) (by simp) ?_
  simp (config := { contextual := true, maxSteps := 2000000 }) (disch := omega) [-Int.not_lt, -Int.not_le, -Nat.not_lt, -Nat.not_le, elemK_get, wrapI, leT, leF, ltT, ltF, leTn, leFn, ltTn, ltFn]
theorem vm_table_is_16 : Ret prog f_vm_table [vI 16] (.fn f_vm_value1_4 []) := by
  refine J_pure fn_vm_table (by simp) ?_
  simp (config := { contextual := true, maxSteps := 2000000 }) (disch := omega) [-Int.not_lt, -Int.not_le, -Nat.not_lt, -Nat.not_le, elemK_get, wrapI, leT, leF, ltT, ltF, leTn, leFn, ltTn, ltFn, cd_vm_table]
  refine callS_go ?_; simp; refine callA_of (vm_value1_4_is) (by simp) ?_
  simp (config := { contextual := true, maxSteps := 2000000 }) (disch := omega) [-Int.not_lt, -Int.not_le, -Nat.not_lt, -Nat.not_le, elemK_get, wrapI, leT, leF, ltT, ltF, leTn, leFn, ltTn, ltFn]
theorem vm_table_is_17 : Ret prog f_vm_table [vI 17] (.fn f_vm_value1_5 []) := by
  refine J_pure fn_vm_table (by simp) ?_
  simp (config := { contextual := true, maxSteps := 2000000 }) (disch := omega) [-Int.not_lt, -Int.not_le, -Nat.not_lt, -Nat.not_le, elemK_get, wrapI, leT, leF, ltT, ltF, leTn, leFn, ltTn, ltFn, cd_vm_table]
  refine callS_go ?_; simp; refine callA_of (vm_value1_5_is) (by simp) ?_
  simp (config := { contextual := true, maxSteps := 2000000 }) (disch := omega) [-Int.not_lt, -Int.not_le, -Nat.not_lt, -Nat.not_le, elemK_get, wrapI, leT, leF, ltT, ltF, leTn, leFn, ltTn, ltFn]
theorem vm_table_is_18 : Ret prog f_vm_table [vI 18] (.fn f_vm_value1_6 []) := by
  refine J_pure fn_vm_table (by simp) ?_
  simp (config := { contextual := true, maxSteps := 2000000 }) (disch := omega) [-Int.not_lt, -Int.not_le, -Nat.not_lt, -Nat.not_le, elemK_get, wrapI, leT, leF, ltT, ltF, leTn, leFn, ltTn, ltFn, cd_vm_table]
  refine callS_go ?_; simp; refine callA_of (vm_value1_6_is) (by simp) ?_
  simp (config := { contextual := true, maxSteps := 2000000 }) (disch := omega) [-Int.not_lt, -Int.not_le, -Nat.not_lt, -Nat.not_le, elemK_get, wrapI, leT, leF, ltT, ltF, leTn, leFn, ltTn, ltFn]
theorem vm_table_is_19 : Ret prog f_vm_table [vI 19] (.fn f_vm_value1_7 []) := by
  refine J_pure fn_vm_table (by simp) ?_
  simp (config := { contextual := true, maxSteps := 2000000 }) (disch := omega) [-Int.not_lt, -Int.not_le, -Nat.not_lt, -Nat.not_le, elemK_get, wrapI, leT, leF, ltT, ltF, leTn, leFn, ltTn, ltFn, cd_vm_table]
  refine callS_go ?_; simp; refine callA_of (vm_value1_7_is) (by simp) ?_
  simp (config := { contextual := true, maxSteps := 2000000 }) (disch := omega) [-Int.not_lt, -Int.not_le, -Nat.not_lt, -Nat.not_le, elemK_get, wrapI, leT, leF, ltT, ltF, leTn, leFn, ltTn, ltFn]
theorem vm_table_is_20 : Ret prog f_vm_table [vI 20] (.fn f_vm_value1_8 []) := by
  refine J_pure fn_vm_table (by simp) ?_
  simp (config := { contextual := true, maxSteps := 2000000 }) (disch := omega) [-Int.not_lt, -Int.not_le, -Nat.not_lt, -Nat.not_le, elemK_get, wrapI, leT, leF, ltT, ltF, leTn, leFn, ltTn, ltFn, cd_vm_table]
  refine callS_go ?_; simp; refine callA_of (vm_value1_8_is) (by simp) ?_
  simp (config := { contextual := true, maxSteps := 2000000 }) (disch := omega) [-Int.not_lt, -Int.not_le, -Nat.not_lt, -Nat.not_le, elemK_get, wrapI, leT, leF, ltT, ltF, leTn, leFn, ltTn, ltFn]
theorem vm_table_is_21 : Ret prog f_vm_table [vI 21] (.fn f_vm_value1_9 []) := by
  refine J_pure fn_vm_table (by simp) ?_
  simp (config := { contextual := true, maxSteps := 2000000 }) (disch := omega) [-Int.not_lt, -Int.not_le, -Nat.not_lt, -Nat.not_le, elemK_get, wrapI, leT, leF, ltT, ltF, leTn, leFn, ltTn, ltFn, cd_vm_table]
  refine callS_go ?_; simp; refine callA_of (vm_value1_9_is) (by simp) ?_
  simp (config := { contextual := true, maxSteps := 2000000 }) (disch := omega) [-Int.not_lt, -Int.not_le, -Nat.not_lt, -Nat.not_le, elemK_get, wrapI, leT, leF, ltT, ltF, leTn, leFn, ltTn, ltFn]
end Go.Am
end

section
namespace Go.Am
set_option maxRecDepth 100000
theorem alt_vm_table_3 : cd_vm_table_3.alt = (.areg (AT.take ⟨(some 4), none, (.mv (.tmp 0))⟩ (AT.take ⟨(some 5), none, (.nchk (.tmp 4))⟩ (AT.take ⟨(some 6), none, (.fa 6 (.tmp 5))⟩ (AT.take ⟨(some 8), none, (.mv (.tmp 1))⟩ (AT.take ⟨(some 9), none, (.mv (.tmp 0))⟩ (AT.alt ⟨(some 7), none, (.ld (.tmp 6))⟩ (AT.alt ⟨(some 10), none, (.call (.func 42) [(.tmp 9)])⟩ AT.done AT.nil) (AT.alt ⟨(some 10), none, (.call (.func 42) [(.tmp 9)])⟩ (AT.alt ⟨(some 7), none, (.ld (.tmp 6))⟩ AT.done AT.nil) AT.nil))))))) [⟨(some 11), none, (.ia 4 (.tmp 7) (.tmp 8))⟩, ⟨none, none, (.st 4 (.tmp 11) (.tmp 10))⟩] [(some 4), (some 5), (some 6), (some 7), (some 8), (some 9), (some 10), (some 11), none]) := by rw [cd_vm_table_3]; rfl
theorem alt_vm_table_5 : cd_vm_table_5.alt = (.areg (AT.take ⟨(some 4), none, (.mv (.tmp 0))⟩ (AT.take ⟨(some 5), none, (.nchk (.tmp 4))⟩ (AT.take ⟨(some 6), none, (.fa 0 (.tmp 5))⟩ (AT.take ⟨(some 11), none, (.mv (.tmp 1))⟩ (AT.take ⟨(some 12), none, (.mv (.tmp 0))⟩ (AT.alt ⟨(some 7), none, (.ld (.tmp 6))⟩ (AT.take ⟨(some 8), none, (.nchk (.tmp 7))⟩ (AT.take ⟨(some 9), none, (.fa 2 (.tmp 8))⟩ (AT.alt ⟨(some 10), none, (.ld (.tmp 9))⟩ (AT.alt ⟨(some 13), none, (.call (.func 42) [(.tmp 12)])⟩ AT.done AT.nil) (AT.alt ⟨(some 13), none, (.call (.func 42) [(.tmp 12)])⟩ (AT.alt ⟨(some 10), none, (.ld (.tmp 9))⟩ AT.done AT.nil) AT.nil)))) (AT.alt ⟨(some 13), none, (.call (.func 42) [(.tmp 12)])⟩ (AT.alt ⟨(some 7), none, (.ld (.tmp 6))⟩ (AT.take ⟨(some 8), none, (.nchk (.tmp 7))⟩ (AT.take ⟨(some 9), none, (.fa 2 (.tmp 8))⟩ (AT.alt ⟨(some 10), none, (.ld (.tmp 9))⟩ AT.done AT.nil))) AT.nil) AT.nil))))))) [⟨(some 14), none, (.ia 4 (.tmp 10) (.tmp 11))⟩, ⟨none, none, (.st 4 (.tmp 14) (.tmp 13))⟩] [(some 4), (some 5), (some 6), (some 7), (some 8), (some 9), (some 10), (some 11), (some 12), (some 13), (some 14), none]) := by rw [cd_vm_table_5]; rfl
end Go.Am
end

section
namespace Go.Am
set_option maxRecDepth 100000
attribute [local irreducible] vc vcIs vcI vcOp vcD vcDp vcDR vcT vcAR stepD stepDp panD neG ne pv J callS callN loopS lookK evK evsK nthK objK boxK rowK boolK intK strK aggK fnK ifcK cellsK cellsLK ldK ldaK iaK srcK stK appK appD isnlD pvK callJ callJD callA
theorem vm_table_3_spec (m : VmS) (a : Int) (s : List Val) (v : Val) (hs : m.stk = s ++ [v]) (h0 : 0 ≤ a) (h : a.toNat < m.loc.length) (hl : m.stk.length < 2 ^ 40) :
    J prog f_vm_table_3 [.bp (.e 0) 0, vI a] m.obs (· = .ret (.tup []) { m with stk := s, junk := v :: m.junk, loc := m.loc.set a.toNat v }.obs) := by
  refine J_genW fn_vm_table_3.alt (by simp [VmS.obs]) ?_
  simp (config := { contextual := true, maxSteps := 2000000 }) (disch := omega) [-Int.not_lt, -Int.not_le, -Nat.not_lt, -Nat.not_le, elemK_get, wrapI, leT, leF, ltT, ltF, leTn, leFn, ltTn, ltFn, alt_vm_table_3, VmS.obs, hpE]
  (repeat' (first | apply And.intro | intro _))
  · refine callS_obj [.e 0, .e 1, .e 2, .e 3, .e 4] rfl rfl (by simp) ?_
    simp
    have hpO := vm_frame_pop_spec m s v hs hl
    try simp [VmS.obs, VmS.obs', machObs] at hpO
    refine callJ_ret 10 hpO (by simp) ?_
    clear hpO
    simp (config := { contextual := true, maxSteps := 2000000 }) (disch := omega) [-Int.not_lt, -Int.not_le, -Nat.not_lt, -Nat.not_le, elemK_get, wrapI, leT, leF, ltT, ltF, leTn, leFn, ltTn, ltFn, List.length_set, List.map_set]
    refine endN _ _ (Wk.refl _ _) [] (by simp) ?_
    simp (config := { contextual := true, maxSteps := 2000000 }) (disch := omega) [-Int.not_lt, -Int.not_le, -Nat.not_lt, -Nat.not_le, elemK_get, wrapI, leT, leF, ltT, ltF, leTn, leFn, ltTn, ltFn]
  · refine callS_obj [.e 0, .e 1, .e 2, .e 3, .e 4] rfl rfl (by simp) ?_
    simp
    have hpO := vm_frame_pop_spec m s v hs hl
    try simp [VmS.obs, VmS.obs', machObs] at hpO
    refine callJ_ret 10 hpO (by simp) ?_
    clear hpO
    simp (config := { contextual := true, maxSteps := 2000000 }) (disch := omega) [-Int.not_lt, -Int.not_le, -Nat.not_lt, -Nat.not_le, elemK_get, wrapI, leT, leF, ltT, ltF, leTn, leFn, ltTn, ltFn, List.length_set, List.map_set]
    refine endN _ _ (Wk.refl _ _) [] (by simp) ?_
    simp (config := { contextual := true, maxSteps := 2000000 }) (disch := omega) [-Int.not_lt, -Int.not_le, -Nat.not_lt, -Nat.not_le, elemK_get, wrapI, leT, leF, ltT, ltF, leTn, leFn, ltTn, ltFn]
theorem vm_table_5_spec (m : VmS) (a : Int) (s : List Val) (v : Val) (hs : m.stk = s ++ [v]) (h0 : 0 ≤ a) (h : a.toNat < m.sts.length) (hl : m.stk.length < 2 ^ 40) :
    J prog f_vm_table_5 [.bp (.e 0) 0, vI a] m.obs (· = .ret (.tup []) { m with stk := s, junk := v :: m.junk, sts := m.sts.set a.toNat v }.obs) := by
  refine J_genW fn_vm_table_5.alt (by simp [VmS.obs]) ?_
  simp (config := { contextual := true, maxSteps := 2000000 }) (disch := omega) [-Int.not_lt, -Int.not_le, -Nat.not_lt, -Nat.not_le, elemK_get, wrapI, leT, leF, ltT, ltF, leTn, leFn, ltTn, ltFn, alt_vm_table_5, VmS.obs, hpE]
  (repeat' (first | apply And.intro | intro _))
  · refine callS_obj [.e 0, .e 1, .e 2, .e 3, .e 4] rfl rfl (by simp) ?_
    simp
    have hpO := vm_frame_pop_spec m s v hs hl
    try simp [VmS.obs, VmS.obs', machObs] at hpO
    refine callJ_ret 13 hpO (by simp) ?_
    clear hpO
    simp (config := { contextual := true, maxSteps := 2000000 }) (disch := omega) [-Int.not_lt, -Int.not_le, -Nat.not_lt, -Nat.not_le, elemK_get, wrapI, leT, leF, ltT, ltF, leTn, leFn, ltTn, ltFn, List.length_set, List.map_set]
    refine endN _ _ (Wk.refl _ _) [] (by simp) ?_
    simp (config := { contextual := true, maxSteps := 2000000 }) (disch := omega) [-Int.not_lt, -Int.not_le, -Nat.not_lt, -Nat.not_le, elemK_get, wrapI, leT, leF, ltT, ltF, leTn, leFn, ltTn, ltFn]
  · refine callS_obj [.e 0, .e 1, .e 2, .e 3, .e 4] rfl rfl (by simp) ?_
    simp
    have hpO := vm_frame_pop_spec m s v hs hl
    try simp [VmS.obs, VmS.obs', machObs] at hpO
    refine callJ_ret 13 hpO (by simp) ?_
    clear hpO
    simp (config := { contextual := true, maxSteps := 2000000 }) (disch := omega) [-Int.not_lt, -Int.not_le, -Nat.not_lt, -Nat.not_le, elemK_get, wrapI, leT, leF, ltT, ltF, leTn, leFn, ltTn, ltFn, List.length_set, List.map_set]
    refine endN _ _ (Wk.refl _ _) [] (by simp) ?_
    simp (config := { contextual := true, maxSteps := 2000000 }) (disch := omega) [-Int.not_lt, -Int.not_le, -Nat.not_lt, -Nat.not_le, elemK_get, wrapI, leT, leF, ltT, ltF, leTn, leFn, ltTn, ltFn]
  · refine callS_obj [.e 0, .e 1, .e 2, .e 3, .e 4] rfl rfl (by simp) ?_
    simp
    have hpO := vm_frame_pop_spec m s v hs hl
    try simp [VmS.obs, VmS.obs', machObs] at hpO
    refine callJ_ret 13 hpO (by simp) ?_
    clear hpO
    simp (config := { contextual := true, maxSteps := 2000000 }) (disch := omega) [-Int.not_lt, -Int.not_le, -Nat.not_lt, -Nat.not_le, elemK_get, wrapI, leT, leF, ltT, ltF, leTn, leFn, ltTn, ltFn, List.length_set, List.map_set]
    refine endN _ _ (Wk.refl _ _) [] (by simp) ?_
    simp (config := { contextual := true, maxSteps := 2000000 }) (disch := omega) [-Int.not_lt, -Int.not_le, -Nat.not_lt, -Nat.not_le, elemK_get, wrapI, leT, leF, ltT, ltF, leTn, leFn, ltTn, ltFn]
end Go.Am
end

section
namespace Go.Am
structure Fr where
  loc : List Val
  stk : List Val
  at_ : Int
  sts : List Val
  fuel : Int
def Fr.vm (S : Fr) (m : Mdl) (f : Fnc) (junk : List Val) : VmS := ⟨f, S.loc, S.stk, junk, S.at_, m, S.sts, S.fuel⟩
inductive StepR where
  | on (S : Fr)
  | trap (e : Int) (S : Fr)
def popL (l : List Val) : Option (List Val × Val) := match l.getLast? with | some v => some (l.dropLast, v) | none => none
theorem popL_append (s : List Val) (v : Val) : popL (s ++ [v]) = some (s, v) := by simp [popL]
theorem popL_eq {l s : List Val} {v : Val} (h : popL l = some (s, v)) : l = s ++ [v] := by
  rcases l.eq_nil_or_concat with rfl | ⟨t, w, rfl⟩
  · simp [popL] at h
  · rw [List.concat_eq_append, popL_append] at h
    injection h with h; injection h with h1 h2
    rw [h1, h2, List.concat_eq_append]
def splitN (l : List Val) (k : Nat) : Option (List Val × List Val) := if k ≤ l.length then some (l.take (l.length - k), l.drop (l.length - k)) else none
theorem splitN_eq {l s vs : List Val} {k : Nat} (h : splitN l k = some (s, vs)) : l = s ++ vs ∧ vs.length = k := by
  unfold splitN at h
  split at h
  · injection h with h; injection h with h1 h2
    subst h1 h2
    exact ⟨(List.take_append_drop _ _).symm, by simp; omega⟩
  · cases h
def mk1 (op a : Int) : List Val → Option (Val × Int)
  | [x] => if op = 13 then some x.neg else if op = 14 then some (if x.kind = 2 then (Val.bool (!decide (x.num = 1)), 0) else (Val.zero, 40))
    else if op = 15 then some (Val.int x.len.1, x.len.2) else if op = 16 then some x.strv else none
  | [x, y] => if op = 12 then some (Val.bin a x y) else if op = 17 then some (Val.bool (x.has y).1, (x.has y).2) else if op = 18 then some (x.at y)
    else if op = 19 then some (x.push y) else if op = 21 then some (x.del y) else none
  | [x, y, z] => if op = 20 then some (x.put y z) else none
  | _ => none
def cnt (op : Int) : Nat := if op = 20 then 3 else if op = 12 ∨ op = 17 ∨ op = 18 ∨ op = 19 ∨ op = 21 then 2 else 1
def Fr.jump (S : Fr) (a : Int) : StepR :=
  if a < S.at_ then (if S.fuel < 1 then .trap 54 { S with fuel := 0 } else .on { S with at_ := a, fuel := S.fuel - 1 }) else .on { S with at_ := a }
def prim (m : Mdl) (i : Ins) (S : Fr) : Option StepR :=
  if i.a < 0 then none
  else if i.op = 1 then (m.consts[i.a.toNat]?).map fun v => .on { S with stk := S.stk ++ [v] }
  else if i.op = 2 then (S.loc[i.a.toNat]?).map fun v => .on { S with stk := S.stk ++ [v] }
  else if i.op = 4 then (S.sts[i.a.toNat]?).map fun v => .on { S with stk := S.stk ++ [v] }
  else if i.op = 3 then if i.a.toNat < S.loc.length then (popL S.stk).map fun p => .on { S with stk := p.1, loc := S.loc.set i.a.toNat p.2 } else none
  else if i.op = 5 then if i.a.toNat < S.sts.length then (popL S.stk).map fun p => .on { S with stk := p.1, sts := S.sts.set i.a.toNat p.2 } else none
  else if i.op = 6 then (popL S.stk).map fun p => .on { S with stk := p.1 }
  else if i.op = 7 then some (S.jump i.a)
  else if i.op = 8 then (popL S.stk).map fun p => if p.2.kind = 2 then (if p.2.num = 1 then .on { S with stk := p.1 } else ({ S with stk := p.1 } : Fr).jump i.a) else .trap 40 { S with stk := p.1 }
  else if i.op = 11 then some (if S.fuel < i.a then .trap 54 { S with fuel := 0 } else .on { S with fuel := S.fuel - i.a })
  else (splitN S.stk (cnt i.op)).bind fun p => (mk1 i.op i.a p.2).map fun r => if r.2 = 0 then .on { S with stk := p.1 ++ [r.1] } else .trap r.2 { S with stk := p.1 }
structure Fr.fit (S : Fr) : Prop where
  a0 : 0 ≤ S.at_
  len : S.stk.length < 2 ^ 40
  f0 : 0 ≤ S.fuel
  f1 : S.fuel < 2 ^ 40
  vals : ∀ v ∈ S.stk, v.wt < 2 ^ 40 ∧ -9223372036854775808 ≤ v.num ∧ v.num < 9223372036854775808
inductive Out where
  | val (v : Val) (sts : List Val) (fuel : Int)
  | trap (e : Int) (sts : List Val) (fuel : Int)
def Fnc.start (f : Fnc) (args sts : List Val) (fuel : Int) : Fr := ⟨args ++ List.replicate (f.locals.toNat - args.length) (Val.int 0), [], 0, sts, fuel⟩
open Classical in
noncomputable def run (m : Mdl) : Nat → Fnc → Fr → Option Out
  | 0, _, _ => none
  | g + 1, f, S =>
    if S.fit then
      (f.code[S.at_.toNat]?).bind fun i =>
        if i.op = 10 then (popL S.stk).map fun p => .val p.2 S.sts S.fuel
        else if i.op = 9 then
          if i.a < 0 then none
          else if S.fuel < 1 then some (.trap 54 S.sts 0)
          else (m.funcs[i.a.toNat]?).bind fun h => if h.params < 0 then none else (splitN S.stk h.params.toNat).bind fun p =>
            match run m g h (h.start p.2 S.sts (S.fuel - 1)) with
            | none => none
            | some (.trap e sts fuel) => some (.trap e sts fuel)
            | some (.val v sts fuel) => run m g f { S with stk := p.1 ++ [v], at_ := S.at_ + 1, sts := sts, fuel := fuel }
        else match prim m i { S with at_ := S.at_ + 1 } with
          | none => none
          | some (.trap e S') => some (.trap e S'.sts S'.fuel)
          | some (.on S') => run m g f S'
    else none
end Go.Am
end

section
namespace Go.Am
set_option maxRecDepth 100000
attribute [local irreducible] vc vcIs vcI vcOp vcD vcDp vcDR vcT vcAR stepD stepDp panD neG ne pv J callS callN loopS lookK evK evsK nthK objK boxK rowK boolK intK strK aggK fnK ifcK cellsK cellsLK ldK ldaK iaK srcK stK appK appD isnlD pvK callJ callJD callA
def Does (g : Nat) (a : Int) (X : VmS) : StepR → Prop
  | .on S' => ∃ junk', J prog g [.bp (.e 0) 0, vI a] X.obs (· = .ret (.tup []) (S'.vm X.m X.fn junk').obs) ∨ J prog g [.bp (.e 0) 0, vI a] X.obs (· = .ret (.tup []) (S'.vm X.m X.fn junk').obs')
  | .trap e S' => ∃ junk', J prog g [.bp (.e 0) 0, vI a] X.obs (· = .pan (trapV e) (S'.vm X.m X.fn junk').obs)
theorem jump_does (S : Fr) (m : Mdl) (f : Fnc) (junk : List Val) (a : Int) (h : S.fit) : Does f_vm_frame_jump a (S.vm m f junk) (S.jump a) := by
  unfold Fr.jump
  by_cases h1 : a < S.at_
  · rw [if_pos h1]
    by_cases h2 : S.fuel < 1
    · rw [if_pos h2]
      exact ⟨junk, vm_frame_jump_pan (S.vm m f junk) a h1 h2⟩
    · rw [if_neg h2]
      refine ⟨junk, .inl ?_⟩
      have := vm_frame_jump_ok (S.vm m f junk) a (fun _ => by show 1 ≤ S.fuel; omega) h.f1
      rw [show (S.vm m f junk).at_ = S.at_ from rfl, if_pos h1] at this
      exact this
  · rw [if_neg h1]
    refine ⟨junk, .inl ?_⟩
    have := vm_frame_jump_ok (S.vm m f junk) a (fun hh => absurd hh h1) h.f1
    rw [show (S.vm m f junk).at_ = S.at_ from rfl, if_neg h1] at this
    exact this
def Done (m : Mdl) (i : Ins) (S : Fr) (r : StepR) : Prop := ∃ g, Ret prog f_vm_table [vI i.op] (.fn g []) ∧ ∀ f junk, Does g i.a (S.vm m f junk) r
theorem made (m : Mdl) (i : Ins) (S : Fr) (s vs : List Val) (r : Val × Int) (g : Nat) (ht : Ret prog f_vm_table [vI i.op] (.fn g []))
    (h0 : r.2 = 0 → ∀ f junk, ∃ junk', J prog g [.bp (.e 0) 0, vI i.a] (S.vm m f junk).obs (· = .ret (.tup []) ((({ S with stk := s } : Fr).vm m f junk').push r.1).obs'))
    (h1 : r.2 ≠ 0 → ∀ f junk, ∃ junk', J prog g [.bp (.e 0) 0, vI i.a] (S.vm m f junk).obs (· = .pan (trapV r.2) (({ S with stk := s } : Fr).vm m f junk').obs)) :
    Done m i S (if r.2 = 0 then .on { S with stk := s ++ [r.1] } else .trap r.2 { S with stk := s }) := by
  refine ⟨g, ht, fun f junk => ?_⟩
  by_cases h : r.2 = 0
  · rw [if_pos h]
    obtain ⟨j, hj⟩ := h0 h f junk
    exact ⟨[], .inr hj⟩
  · rw [if_neg h]
    exact h1 h f junk
theorem prim_done (m : Mdl) (i : Ins) (S : Fr) (r : StepR) (hp : prim m i S = some r) (hf : S.fit) (h9 : i.op ≠ 9) (h10 : i.op ≠ 10) : Done m i S r := by
  obtain ⟨op, a⟩ := i
  unfold prim at hp
  simp only at hp h9 h10
  by_cases ha : a < 0
  · rw [if_pos ha] at hp; cases hp
  rw [if_neg ha] at hp
  have hl := hf.len
  by_cases h : op = 1
  · subst h
    rw [if_pos rfl] at hp
    obtain ⟨v, hv, rfl⟩ := Option.map_eq_some_iff.1 hp
    obtain ⟨k1, rfl⟩ := List.getElem?_eq_some_iff.1 hv
    exact ⟨_, vm_table_is_1, fun f junk => ⟨[], .inr (vm_table_1_spec (S.vm m f junk) a (by omega) k1 hl)⟩⟩
  rw [if_neg h] at hp
  by_cases h : op = 2
  · subst h
    rw [if_pos rfl] at hp
    obtain ⟨v, hv, rfl⟩ := Option.map_eq_some_iff.1 hp
    obtain ⟨k1, rfl⟩ := List.getElem?_eq_some_iff.1 hv
    exact ⟨_, vm_table_is_2, fun f junk => ⟨[], .inr (vm_table_2_spec (S.vm m f junk) a (by omega) k1 hl)⟩⟩
  rw [if_neg h] at hp
  by_cases h : op = 4
  · subst h
    rw [if_pos rfl] at hp
    obtain ⟨v, hv, rfl⟩ := Option.map_eq_some_iff.1 hp
    obtain ⟨k1, rfl⟩ := List.getElem?_eq_some_iff.1 hv
    exact ⟨_, vm_table_is_4, fun f junk => ⟨[], .inr (vm_table_4_spec (S.vm m f junk) a (by omega) k1 hl)⟩⟩
  rw [if_neg h] at hp
  by_cases h : op = 3
  · subst h
    rw [if_pos rfl] at hp
    split at hp
    · rename_i hlt
      obtain ⟨⟨s, v⟩, hv, rfl⟩ := Option.map_eq_some_iff.1 hp
      exact ⟨_, vm_table_is_3, fun f junk => ⟨v :: junk, .inl (vm_table_3_spec (S.vm m f junk) a s v (popL_eq hv) (by omega) hlt hl)⟩⟩
    · cases hp
  rw [if_neg h] at hp
  by_cases h : op = 5
  · subst h
    rw [if_pos rfl] at hp
    split at hp
    · rename_i hlt
      obtain ⟨⟨s, v⟩, hv, rfl⟩ := Option.map_eq_some_iff.1 hp
      exact ⟨_, vm_table_is_5, fun f junk => ⟨v :: junk, .inl (vm_table_5_spec (S.vm m f junk) a s v (popL_eq hv) (by omega) hlt hl)⟩⟩
    · cases hp
  rw [if_neg h] at hp
  by_cases h : op = 6
  · subst h
    rw [if_pos rfl] at hp
    obtain ⟨⟨s, v⟩, hv, rfl⟩ := Option.map_eq_some_iff.1 hp
    exact ⟨_, vm_table_is_6, fun f junk => ⟨v :: junk, .inl (vm_table_6_spec (S.vm m f junk) a s v (popL_eq hv) hl)⟩⟩
  rw [if_neg h] at hp
  by_cases h : op = 7
  · subst h
    rw [if_pos rfl] at hp
    injection hp with hp; subst hp
    exact ⟨_, vm_table_is_7, fun f junk => jump_does S m f junk a hf⟩
  rw [if_neg h] at hp
  by_cases h : op = 8
  · subst h
    rw [if_pos rfl] at hp
    obtain ⟨⟨s, v⟩, hv, rfl⟩ := Option.map_eq_some_iff.1 hp
    refine ⟨_, vm_table_is_8, fun f junk => ?_⟩
    have hs := popL_eq hv
    simp only
    by_cases hk : v.kind = 2
    · rw [if_pos hk]
      by_cases hn : v.num = 1
      · rw [if_pos hn]
        exact ⟨v :: junk, .inl (vm_table_7_on (S.vm m f junk) a s v hs hk hn hl)⟩
      · rw [if_neg hn]
        unfold Fr.jump
        simp only
        by_cases h1 : a < S.at_
        · rw [if_pos h1]
          by_cases h2 : S.fuel < 1
          · rw [if_pos h2]
            exact ⟨v :: junk, vm_table_7_pan (S.vm m f junk) a s v hs hk hn hl h1 h2⟩
          · rw [if_neg h2]
            refine ⟨v :: junk, .inl ?_⟩
            have := vm_table_7_go (S.vm m f junk) a s v hs hk hn hl (fun _ => by show 1 ≤ S.fuel; omega) hf.f1
            unfold VmS.jump at this
            simp only [show (S.vm m f junk).at_ = S.at_ from rfl, if_pos h1] at this
            exact this
        · rw [if_neg h1]
          refine ⟨v :: junk, .inl ?_⟩
          have := vm_table_7_go (S.vm m f junk) a s v hs hk hn hl (fun hh => absurd hh h1) hf.f1
          unfold VmS.jump at this
          simp only [show (S.vm m f junk).at_ = S.at_ from rfl, if_neg h1] at this
          exact this
    · rw [if_neg hk]
      exact ⟨v :: junk, vm_table_7_bad (S.vm m f junk) a s v hs hk hl⟩
  rw [if_neg h] at hp
  by_cases h : op = 11
  · subst h
    rw [if_pos rfl] at hp
    injection hp with hp; subst hp
    refine ⟨_, vm_table_is_11, fun f junk => ?_⟩
    by_cases h1 : S.fuel < a
    · rw [if_pos h1]
      exact ⟨junk, vm_table_8_pan (S.vm m f junk) a h1⟩
    · rw [if_neg h1]
      exact ⟨junk, .inl (vm_table_8_ok (S.vm m f junk) a (by omega) (by show a ≤ S.fuel; omega) hf.f1)⟩
  rw [if_neg h] at hp
  obtain ⟨⟨s, vs⟩, hsp, hp⟩ := Option.bind_eq_some_iff.1 hp
  obtain ⟨rr, hr, rfl⟩ := Option.map_eq_some_iff.1 hp
  obtain ⟨hs, hlen⟩ := splitN_eq hsp
  have hw : ∀ v ∈ vs, v.wt < 2 ^ 40 ∧ -9223372036854775808 ≤ v.num ∧ v.num < 9223372036854775808 := fun v hv => hf.vals v (by rw [hs]; simp [hv])
  simp only at hr ⊢
  match vs, hlen, hr, hw, hs with
  | [], _, hr, _, _ => cases hr
  | [x], hlen, hr, hw, hs =>
    obtain ⟨wx, nx0, nx1⟩ := hw x (by simp)
    unfold mk1 at hr; simp only at hr
    by_cases h : op = 13
    · subst h; rw [if_pos rfl] at hr; injection hr with hr; subst hr
      exact made m ⟨13, a⟩ S s [x] _ _ vm_table_is_13 (fun he f junk => ⟨_, vm_value1_1_ok (S.vm m f junk) a s x hs hl _ _ (sem_Neg_spec x nx0 nx1) he⟩) (fun he f junk => ⟨_, vm_value1_1_pan (S.vm m f junk) a s x hs hl _ _ (sem_Neg_spec x nx0 nx1) he⟩)
    rw [if_neg h] at hr
    by_cases h : op = 14
    · subst h; rw [if_pos rfl] at hr; injection hr with hr; subst hr
      by_cases hk : x.kind = 2
      · rw [if_pos hk]
        exact made m ⟨14, a⟩ S s [x] (_, 0) _ vm_table_is_14 (fun he f junk => ⟨_, vm_value1_2_ok (S.vm m f junk) a s x hs hl hk⟩) (fun he => absurd rfl he)
      · rw [if_neg hk]
        exact made m ⟨14, a⟩ S s [x] (_, 40) _ vm_table_is_14 (fun he => absurd he (by simp)) (fun he f junk => ⟨_, vm_value1_2_bad (S.vm m f junk) a s x hs hl hk⟩)
    rw [if_neg h] at hr
    by_cases h : op = 15
    · subst h; rw [if_pos rfl] at hr; injection hr with hr; subst hr
      exact made m ⟨15, a⟩ S s [x] _ _ vm_table_is_15 (fun he f junk => ⟨_, vm_value1_3_ok (S.vm m f junk) a s x hs hl _ _ (value_Len_spec x wx) he⟩) (fun he f junk => ⟨_, vm_value1_3_pan (S.vm m f junk) a s x hs hl _ _ (value_Len_spec x wx) he⟩)
    rw [if_neg h] at hr
    by_cases h : op = 16
    · subst h; rw [if_pos rfl] at hr; injection hr with hr; subst hr
      exact made m ⟨16, a⟩ S s [x] _ _ vm_table_is_16 (fun he f junk => ⟨_, vm_value1_4_ok (S.vm m f junk) a s x hs hl _ _ (sem_Str_spec x nx0 nx1) he⟩) (fun he f junk => ⟨_, vm_value1_4_pan (S.vm m f junk) a s x hs hl _ _ (sem_Str_spec x nx0 nx1) he⟩)
    rw [if_neg h] at hr
    cases hr
  | [x, y], hlen, hr, hw, hs =>
    obtain ⟨wx, nx0, nx1⟩ := hw x (by simp)
    obtain ⟨wy, ny0, ny1⟩ := hw y (by simp)
    unfold mk1 at hr; simp only at hr
    by_cases h : op = 12
    · subst h; rw [if_pos rfl] at hr; injection hr with hr; subst hr
      exact made m ⟨12, a⟩ S s [x, y] _ _ vm_table_is_12 (fun he f junk => ⟨_, vm_table_9_ok (S.vm m f junk) a s x y hs hl _ _ (sem_Binary_spec a x y wx wy nx0 nx1 ny0 ny1) he⟩) (fun he f junk => ⟨_, vm_table_9_pan (S.vm m f junk) a s x y hs hl _ _ (sem_Binary_spec a x y wx wy nx0 nx1 ny0 ny1) he⟩)
    rw [if_neg h] at hr
    by_cases h : op = 17
    · subst h; rw [if_pos rfl] at hr; injection hr with hr; subst hr
      exact made m ⟨17, a⟩ S s [x, y] _ _ vm_table_is_17 (fun he f junk => ⟨_, vm_value1_5_ok (S.vm m f junk) a s x y hs hl _ _ (value_Has_spec x y wx wy) he⟩) (fun he f junk => ⟨_, vm_value1_5_pan (S.vm m f junk) a s x y hs hl _ _ (value_Has_spec x y wx wy) he⟩)
    rw [if_neg h] at hr
    by_cases h : op = 18
    · subst h; rw [if_pos rfl] at hr; injection hr with hr; subst hr
      exact made m ⟨18, a⟩ S s [x, y] _ _ vm_table_is_18 (fun he f junk => ⟨_, vm_value1_6_ok (S.vm m f junk) a s x y hs hl _ _ (value_At_spec x y wx wy) he⟩) (fun he f junk => ⟨_, vm_value1_6_pan (S.vm m f junk) a s x y hs hl _ _ (value_At_spec x y wx wy) he⟩)
    rw [if_neg h] at hr
    by_cases h : op = 19
    · subst h; rw [if_pos rfl] at hr; injection hr with hr; subst hr
      exact made m ⟨19, a⟩ S s [x, y] _ _ vm_table_is_19 (fun he f junk => ⟨_, vm_value1_7_ok (S.vm m f junk) a s x y hs hl _ _ (value_Push_spec x y wx wy) he⟩) (fun he f junk => ⟨_, vm_value1_7_pan (S.vm m f junk) a s x y hs hl _ _ (value_Push_spec x y wx wy) he⟩)
    rw [if_neg h] at hr
    by_cases h : op = 21
    · subst h; rw [if_pos rfl] at hr; injection hr with hr; subst hr
      exact made m ⟨21, a⟩ S s [x, y] _ _ vm_table_is_21 (fun he f junk => ⟨_, vm_value1_9_ok (S.vm m f junk) a s x y hs hl _ _ (value_Del_spec x y wx wy) he⟩) (fun he f junk => ⟨_, vm_value1_9_pan (S.vm m f junk) a s x y hs hl _ _ (value_Del_spec x y wx wy) he⟩)
    rw [if_neg h] at hr
    cases hr
  | [x, y, z], hlen, hr, hw, hs =>
    obtain ⟨wx, nx0, nx1⟩ := hw x (by simp)
    obtain ⟨wy, ny0, ny1⟩ := hw y (by simp)
    obtain ⟨wz, nz0, nz1⟩ := hw z (by simp)
    unfold mk1 at hr; simp only at hr
    by_cases h : op = 20
    · subst h; rw [if_pos rfl] at hr; injection hr with hr; subst hr
      have hP := value_Put_spec x y z wx wy wz
      exact made m ⟨20, a⟩ S s [x, y, z] _ _ vm_table_is_20 (fun he f junk => ⟨_, vm_value1_8_ok (S.vm m f junk) a s x y z hs hl _ (by rw [he] at hP; exact hP)⟩) (fun he f junk => ⟨_, vm_value1_8_pan (S.vm m f junk) a s x y z hs hl _ _ hP he⟩)
    rw [if_neg h] at hr
    cases hr
  | _ :: _ :: _ :: _ :: _, hlen, hr, _, _ => cases hr
end Go.Am
end

section
namespace Go.Am
set_option maxRecDepth 100000
attribute [local irreducible] vc vcIs vcI vcOp vcD vcDp vcDR vcT vcAR stepD stepDp panD neG ne pv J callS callN loopS lookK evK evsK nthK objK boxK rowK boolK intK strK aggK fnK ifcK cellsK cellsLK ldK ldaK iaK srcK stK appK appD isnlD pvK callJ callJD callA
theorem slices_Clone_own (xs : List (List V)) (o n : Nat) (h : o + n ≤ xs.length) (hl : n < 2 ^ 40) :
    J prog f_slices_Clone__api_Value_api_Value [.arr (.e 0) o n] [.row t_api_Value 4 true xs] (· = .ret (.arr (.e 1) 0 n) [.row t_api_Value 4 true xs, .row t_api_Value 4 true ((xs.drop o).take n)]) := by
  refine J_genW fn_slices_Clone__api_Value_api_Value (by simp) ?_
  simp (config := { contextual := true, maxSteps := 2000000 }) (disch := omega) [-Int.not_lt, -Int.not_le, -Nat.not_lt, -Nat.not_le, elemK_get, wrapI, leT, leF, ltT, ltF, leTn, leFn, ltTn, ltFn, cd_slices_Clone__api_Value_api_Value, hpE]
  refine ⟨?_, fun hn => ?_⟩
  · refine endR _ _ (Wk.refl _ _) [.l 7 0] (by simp) ?_
    simp (config := { contextual := true, maxSteps := 2000000 }) (disch := omega) [-Int.not_lt, -Int.not_le, -Nat.not_lt, -Nat.not_le, elemK_get, wrapI, leT, leF, ltT, ltF, leTn, leFn, ltTn, ltFn]
  · subst hn
    refine endR _ _ (Wk.row (s := 2) (id := .l 7 0) (ty := t_api_Value) (sz := 4) rfl) [.l 7 0] (by simp) ?_
    simp (config := { contextual := true, maxSteps := 2000000 }) (disch := omega) [-Int.not_lt, -Int.not_le, -Nat.not_lt, -Nat.not_le, elemK_get, wrapI, leT, leF, ltT, ltF, leTn, leFn, ltTn, ltFn]
theorem vm_frame_enter_ok (S : Fr) (m : Mdl) (f h : Fnc) (junk : List Val) (a : Int) (s vs : List Val) (v : Val) (sts : List Val) (fuel : Int) (h0 : 0 ≤ a) (ha : a.toNat < m.funcs.length) (hh : m.funcs[a.toNat] = h) (hp : 0 ≤ h.params)
    (hfit : S.fit) (hf : 1 ≤ S.fuel) (hs : S.stk = s ++ vs) (hv : vs.length = h.params.toNat)
    (hcall : J prog f_vm_machine_call [.bp (.e 0) 0, vI a, .arr (.e 2) 0 vs.length] (machObs m S.sts (S.fuel - 1) ++ [.row t_api_Value 4 true (vs.map Val.cells)]) (· = .ret v.V (machObs m sts fuel ++ [.row t_api_Value 4 true (vs.map Val.cells)]))) :
    J prog f_vm_frame_enter [.bp (.e 0) 0, vI a] (S.vm m f junk).obs (· = .ret (.tup []) (({ S with stk := s ++ [v], sts := sts, fuel := fuel } : Fr).vm m f []).obs') := by
  have hpar : m.funcs[a.toNat].params = (vs.length : Int) := by rw [hh]; omega
  have hsl : S.stk.length = s.length + vs.length := by rw [hs]; simp
  have hlen := hfit.len
  have tn : ((s.length : Int) + (vs.length : Int)).toNat - s.length = vs.length := by omega
  have htk : List.take vs.length (List.drop s.length (List.map Val.cells S.stk ++ List.map Val.cells junk)) = vs.map Val.cells := by rw [hs]; simp
  have hrow : List.map Val.cells S.stk ++ List.map Val.cells junk = List.map Val.cells s ++ (List.map Val.cells vs ++ List.map Val.cells junk) := by rw [hs]; simp
  refine J_genW fn_vm_frame_enter (by simp [VmS.obs]) ?_
  simp (config := { contextual := true, maxSteps := 2000000 }) (disch := omega) [-Int.not_lt, -Int.not_le, -Nat.not_lt, -Nat.not_le, elemK_get, wrapI, leT, leF, ltT, ltF, leTn, leFn, ltTn, ltFn, cd_vm_frame_enter, VmS.obs, Fr.vm, hpE]
  refine callS_obj [.e 1, .e 4] rfl rfl (by simp) ?_
  simp
  have hpO := vm_machine_charge_ok m S.sts S.fuel 1 hf (by simp) hfit.f1
  try simp [VmS.obs, VmS.obs', machObs] at hpO
  refine callJ_ret 10 hpO (by simp) ?_
  clear hpO
  simp (config := { contextual := true, maxSteps := 2000000 }) (disch := omega) [-Int.not_lt, -Int.not_le, -Nat.not_lt, -Nat.not_le, elemK_get, wrapI, leT, leF, ltT, ltF, leTn, leFn, ltTn, ltFn, hpar, hsl, tn]
  refine callS_obj [.e 3] rfl rfl (by simp) ?_
  simp
  have hpO := slices_Clone_own (List.map Val.cells S.stk ++ List.map Val.cells junk) s.length vs.length (by simp [hsl]) (by omega)
  try simp [VmS.obs, VmS.obs', machObs] at hpO
  refine callJ_ret 35 hpO (by simp) ?_
  clear hpO
  simp (config := { contextual := true, maxSteps := 2000000 }) (disch := omega) [-Int.not_lt, -Int.not_le, -Nat.not_lt, -Nat.not_le, elemK_get, wrapI, leT, leF, ltT, ltF, leTn, leFn, ltTn, ltFn, htk]
  refine callS_obj [.e 1, .e 4, .l 35 0] rfl rfl (by simp) ?_
  simp
  have hpO := hcall
  try simp [VmS.obs, VmS.obs', machObs] at hpO
  refine callJ_ret 52 hpO (by simp) ?_
  clear hpO
  simp (config := { contextual := true, maxSteps := 2000000 }) (disch := omega) [-Int.not_lt, -Int.not_le, -Nat.not_lt, -Nat.not_le, elemK_get, wrapI, leT, leF, ltT, ltF, leTn, leFn, ltTn, ltFn]
  rw [hrow]
  refine callS_obj [.e 0, .e 1, .e 2, .e 3, .e 4] rfl rfl (by simp) ?_
  simp
  have hpO := vm_frame_push_ok ⟨f, S.loc, s, vs ++ junk, S.at_, m, sts, fuel⟩ v (by simp; omega)
  try simp [VmS.obs, VmS.obs', machObs] at hpO
  refine callJ_ret 53 hpO (by simp) ?_
  clear hpO
  simp (config := { contextual := true, maxSteps := 2000000 }) (disch := omega) [-Int.not_lt, -Int.not_le, -Nat.not_lt, -Nat.not_le, elemK_get, wrapI, leT, leF, ltT, ltF, leTn, leFn, ltTn, ltFn]
  refine endN _ _ (Wk.refl _ _) [.l 53 0] (by simp) ?_
  simp (config := { contextual := true, maxSteps := 2000000 }) (disch := omega) [-Int.not_lt, -Int.not_le, -Nat.not_lt, -Nat.not_le, elemK_get, wrapI, leT, leF, ltT, ltF, leTn, leFn, ltTn, ltFn, VmS.obs', Fr.vm]
theorem vm_frame_enter_pan (S : Fr) (m : Mdl) (f h : Fnc) (junk : List Val) (a : Int) (s vs : List Val) (e : Int) (sts : List Val) (fuel : Int) (h0 : 0 ≤ a) (ha : a.toNat < m.funcs.length) (hh : m.funcs[a.toNat] = h) (hp : 0 ≤ h.params)
    (hfit : S.fit) (hf : 1 ≤ S.fuel) (hs : S.stk = s ++ vs) (hv : vs.length = h.params.toNat)
    (hcall : J prog f_vm_machine_call [.bp (.e 0) 0, vI a, .arr (.e 2) 0 vs.length] (machObs m S.sts (S.fuel - 1) ++ [.row t_api_Value 4 true (vs.map Val.cells)]) (· = .pan (trapV e) (machObs m sts fuel ++ [.row t_api_Value 4 true (vs.map Val.cells)]))) :
    J prog f_vm_frame_enter [.bp (.e 0) 0, vI a] (S.vm m f junk).obs (· = .pan (trapV e) (({ S with stk := s, sts := sts, fuel := fuel } : Fr).vm m f (vs ++ junk)).obs) := by
  have hpar : m.funcs[a.toNat].params = (vs.length : Int) := by rw [hh]; omega
  have hsl : S.stk.length = s.length + vs.length := by rw [hs]; simp
  have hlen := hfit.len
  have tn : ((s.length : Int) + (vs.length : Int)).toNat - s.length = vs.length := by omega
  have htk : List.take vs.length (List.drop s.length (List.map Val.cells S.stk ++ List.map Val.cells junk)) = vs.map Val.cells := by rw [hs]; simp
  have hrow : List.map Val.cells S.stk ++ List.map Val.cells junk = List.map Val.cells s ++ (List.map Val.cells vs ++ List.map Val.cells junk) := by rw [hs]; simp
  refine J_genW fn_vm_frame_enter (by simp [VmS.obs]) ?_
  simp (config := { contextual := true, maxSteps := 2000000 }) (disch := omega) [-Int.not_lt, -Int.not_le, -Nat.not_lt, -Nat.not_le, elemK_get, wrapI, leT, leF, ltT, ltF, leTn, leFn, ltTn, ltFn, cd_vm_frame_enter, VmS.obs, Fr.vm, hpE]
  refine callS_obj [.e 1, .e 4] rfl rfl (by simp) ?_
  simp
  have hpO := vm_machine_charge_ok m S.sts S.fuel 1 hf (by simp) hfit.f1
  try simp [VmS.obs, VmS.obs', machObs] at hpO
  refine callJ_ret 10 hpO (by simp) ?_
  clear hpO
  simp (config := { contextual := true, maxSteps := 2000000 }) (disch := omega) [-Int.not_lt, -Int.not_le, -Nat.not_lt, -Nat.not_le, elemK_get, wrapI, leT, leF, ltT, ltF, leTn, leFn, ltTn, ltFn, hpar, hsl, tn]
  refine callS_obj [.e 3] rfl rfl (by simp) ?_
  simp
  have hpO := slices_Clone_own (List.map Val.cells S.stk ++ List.map Val.cells junk) s.length vs.length (by simp [hsl]) (by omega)
  try simp [VmS.obs, VmS.obs', machObs] at hpO
  refine callJ_ret 35 hpO (by simp) ?_
  clear hpO
  simp (config := { contextual := true, maxSteps := 2000000 }) (disch := omega) [-Int.not_lt, -Int.not_le, -Nat.not_lt, -Nat.not_le, elemK_get, wrapI, leT, leF, ltT, ltF, leTn, leFn, ltTn, ltFn, htk]
  refine callS_obj [.e 1, .e 4, .l 35 0] rfl rfl (by simp) ?_
  simp
  have hpO := hcall
  try simp [VmS.obs, VmS.obs', machObs] at hpO
  refine callJ_pan hpO ?_
  clear hpO
  simp (config := { contextual := true, maxSteps := 2000000 }) (disch := omega) [-Int.not_lt, -Int.not_le, -Nat.not_lt, -Nat.not_le, elemK_get, wrapI, leT, leF, ltT, ltF, leTn, leFn, ltTn, ltFn]
  rw [hrow]
  refine endP ?_
  simp (config := { contextual := true, maxSteps := 2000000 }) (disch := omega) [-Int.not_lt, -Int.not_le, -Nat.not_lt, -Nat.not_le, elemK_get, wrapI, leT, leF, ltT, ltF, leTn, leFn, ltTn, ltFn, VmS.obs, Fr.vm]
theorem vm_frame_enter_out (S : Fr) (m : Mdl) (f : Fnc) (junk : List Val) (a : Int) (hf : S.fuel < 1) :
    J prog f_vm_frame_enter [.bp (.e 0) 0, vI a] (S.vm m f junk).obs (· = .pan (trapV 54) (({ S with fuel := 0 } : Fr).vm m f junk).obs) := by
  refine J_genW fn_vm_frame_enter (by simp [VmS.obs]) ?_
  simp (config := { contextual := true, maxSteps := 2000000 }) (disch := omega) [-Int.not_lt, -Int.not_le, -Nat.not_lt, -Nat.not_le, elemK_get, wrapI, leT, leF, ltT, ltF, leTn, leFn, ltTn, ltFn, cd_vm_frame_enter, VmS.obs, Fr.vm, hpE]
  refine callS_obj [.e 1, .e 4] rfl rfl (by simp) ?_
  simp
  have hpO := vm_machine_charge_pan m S.sts S.fuel 1 hf
  try simp [VmS.obs, VmS.obs', machObs] at hpO
  refine callJ_pan hpO ?_
  clear hpO
  simp (config := { contextual := true, maxSteps := 2000000 }) (disch := omega) [-Int.not_lt, -Int.not_le, -Nat.not_lt, -Nat.not_le, elemK_get, wrapI, leT, leF, ltT, ltF, leTn, leFn, ltTn, ltFn]
  refine endP ?_
  simp (config := { contextual := true, maxSteps := 2000000 }) (disch := omega) [-Int.not_lt, -Int.not_le, -Nat.not_lt, -Nat.not_le, elemK_get, wrapI, leT, leF, ltT, ltF, leTn, leFn, ltTn, ltFn, VmS.obs, Fr.vm]
end Go.Am
end

section
namespace Go.Am
set_option maxRecDepth 100000
attribute [local irreducible] vc vcIs vcI vcOp vcD vcDp vcDR vcT vcAR stepD stepDp panD neG ne pv J callS callN loopS lookK evK evsK nthK objK boxK rowK boolK intK strK aggK fnK ifcK cellsK cellsLK ldK ldaK iaK srcK stK appK appD isnlD pvK callJ callJD callA
def OutIs (m : Mdl) (row : Ob) : Out → Res → Prop
  | .val v sts fuel, r => r = .ret v.V (machObs m sts fuel ++ [row])
  | .trap e sts fuel, r => r = .pan (trapV e) (machObs m sts fuel ++ [row])
structure Fnc.okc (f : Fnc) : Prop where
  p0 : 0 ≤ f.params
  pl : f.params ≤ f.locals
  l1 : f.locals < 2 ^ 20
  c1 : f.code.length < 2 ^ 40
def CallOk (m : Mdl) (g : Nat) : Prop := ∀ (n : Nat) (f : Fnc) (args sts : List Val) (fuel : Int) (out : Out) (hn : n < m.funcs.length), m.funcs[n] = f → args.length ≤ f.locals.toNat → run m g f (f.start args sts fuel) = some out →
  J prog f_vm_machine_call [.bp (.e 0) 0, vI n, .arr (.e 2) 0 args.length] (machObs m sts fuel ++ [.row t_api_Value 4 true (args.map Val.cells)]) (OutIs m (.row t_api_Value 4 true (args.map Val.cells)) out)
theorem step_done {m : Mdl} {k : Nat} {f : Fnc} {S : Fr} {i : Ins} {out : Out} (hm : ∀ f ∈ m.funcs, f.okc) (IH : CallOk m k) (hfit : S.fit) (h10 : i.op ≠ 10)
    (hrun : (if i.op = 9 then
          if i.a < 0 then none
          else if S.fuel < 1 then some (.trap 54 S.sts 0)
          else (m.funcs[i.a.toNat]?).bind fun h => if h.params < 0 then none else (splitN S.stk h.params.toNat).bind fun p =>
            match run m k h (h.start p.2 S.sts (S.fuel - 1)) with
            | none => none
            | some (.trap e sts fuel) => some (.trap e sts fuel)
            | some (.val v sts fuel) => run m k f { S with stk := p.1 ++ [v], at_ := S.at_ + 1, sts := sts, fuel := fuel }
        else match prim m i { S with at_ := S.at_ + 1 } with
          | none => none
          | some (.trap e S') => some (.trap e S'.sts S'.fuel)
          | some (.on S') => run m k f S') = some out) :
    ∃ r, Done m i { S with at_ := S.at_ + 1 } r ∧ (match r with | .on S' => run m k f S' = some out | .trap e S' => out = .trap e S'.sts S'.fuel) := by
  have hfit1 : ({ S with at_ := S.at_ + 1 } : Fr).fit := ⟨by have := hfit.a0; simp only; omega, hfit.len, hfit.f0, hfit.f1, hfit.vals⟩
  obtain ⟨op, a⟩ := i
  simp only at hrun h10
  by_cases h9 : op = 9
  · subst h9
    rw [if_pos rfl] at hrun
    by_cases ha : a < 0
    · rw [if_pos ha] at hrun; cases hrun
    rw [if_neg ha] at hrun
    by_cases hfu : S.fuel < 1
    · rw [if_pos hfu] at hrun; injection hrun with hrun; subst hrun
      exact ⟨.trap 54 { S with at_ := S.at_ + 1, fuel := 0 }, ⟨_, vm_table_is_9, fun f junk => ⟨junk, vm_frame_enter_out { S with at_ := S.at_ + 1 } m f junk a hfu⟩⟩, rfl⟩
    rw [if_neg hfu] at hrun
    obtain ⟨h, hh, hrun⟩ := Option.bind_eq_some_iff.1 hrun
    obtain ⟨hal, rfl⟩ := List.getElem?_eq_some_iff.1 hh
    by_cases hp0 : m.funcs[a.toNat].params < 0
    · rw [if_pos hp0] at hrun; cases hrun
    rw [if_neg hp0] at hrun
    obtain ⟨⟨s, vs⟩, hsp, hrun⟩ := Option.bind_eq_some_iff.1 hrun
    obtain ⟨hs, hvl⟩ := splitN_eq hsp
    have hok := hm _ (List.getElem_mem hal)
    have hargs : vs.length ≤ m.funcs[a.toNat].locals.toNat := by have := hok.pl; have := hok.p0; omega
    have ea : (a.toNat : Int) = a := by omega
    simp only at hrun
    cases hc : run m k m.funcs[a.toNat] (m.funcs[a.toNat].start vs S.sts (S.fuel - 1)) with
    | none => rw [hc] at hrun; cases hrun
    | some o =>
      rw [hc] at hrun
      have hJ := IH a.toNat _ vs S.sts (S.fuel - 1) o hal rfl hargs hc
      rw [ea] at hJ
      cases o with
      | val v sts fuel =>
        exact ⟨.on { S with stk := s ++ [v], at_ := S.at_ + 1, sts := sts, fuel := fuel }, ⟨_, vm_table_is_9, fun f junk => ⟨[], .inr (vm_frame_enter_ok { S with at_ := S.at_ + 1 } m f _ junk a s vs v sts fuel (by omega) hal rfl hok.p0 hfit1 (by show 1 ≤ S.fuel; omega) hs hvl hJ)⟩⟩, hrun⟩
      | trap e sts fuel =>
        injection hrun with hrun
        exact ⟨.trap e { S with stk := s, at_ := S.at_ + 1, sts := sts, fuel := fuel }, ⟨_, vm_table_is_9, fun f junk => ⟨vs ++ junk, vm_frame_enter_pan { S with at_ := S.at_ + 1 } m f _ junk a s vs e sts fuel (by omega) hal rfl hok.p0 hfit1 (by show 1 ≤ S.fuel; omega) hs hvl hJ⟩⟩, hrun.symm⟩
  · rw [if_neg h9] at hrun
    cases hp : prim m ⟨op, a⟩ { S with at_ := S.at_ + 1 } with
    | none => rw [hp] at hrun; cases hrun
    | some r =>
      rw [hp] at hrun
      refine ⟨r, prim_done m _ _ r hp hfit1 h9 h10, ?_⟩
      cases r with
      | on S' => exact hrun
      | trap e S' => injection hrun with hrun; exact hrun.symm
end Go.Am
end

section
namespace Go.Am
set_option maxRecDepth 100000
attribute [local irreducible] vc vcIs vcI vcOp vcD vcDp vcDR vcT vcAR stepD stepDp panD neG ne pv J callS callN loopS lookK evK evsK nthK objK boxK rowK boolK intK strK aggK fnK ifcK cellsK cellsLK ldK ldaK iaK srcK stK appK appD isnlD pvK callJ callJD callA
set_option maxHeartbeats 2000000 in
theorem vm_call_ok {m : Mdl} (hm : ∀ f ∈ m.funcs, f.okc) : ∀ g, CallOk m g := by
  intro g
  induction g using Nat.strongRecOn with
  | _ g IH =>
  intro n f args sts fuel out hn hf hargs hr
  have hok := hm f (by rw [← hf]; exact List.getElem_mem hn)
  have hcode := hok.c1
  have hl2 := hok.l1
  have hl : 0 ≤ f.locals := by have := hok.p0; have := hok.pl; omega
  have ha := hargs
  obtain ⟨L, hL⟩ : ∃ L : Nat, f.locals = (L : Int) := ⟨f.locals.toNat, by omega⟩
  rw [hL] at hl2 ha
  simp only [Int.toNat_natCast] at ha
  refine J_genW fn_vm_machine_call (by simp [machObs]) ?_
  simp (config := { contextual := true, maxSteps := 2000000 }) (disch := omega) [-Int.not_lt, -Int.not_le, -Nat.not_lt, -Nat.not_le, elemK_get, wrapI, leT, leF, ltT, ltF, leTn, leFn, ltTn, ltFn, cd_vm_machine_call, machObs, hpE, hf, Fnc.cells_eq f, hL]
  refine loopS_for L (fun i => [(36, vI i), (35, vI L), (7, .bp (.l 30 0) 0), (6, .bp (.l 6 0) 0), (2, .arr (.e 2) 0 args.length)])
    (fun i => [(.l 30 0, .box [.bp (.e 0) 0, vI f.params, vI L, vI f.zero, vI f.stack, .lst (f.code.map Ins.cells), .arr (.l 28 0) 0 L, .nil, vI 0]),
      (.l 28 0, .row t_api_Value 4 true (List.replicate i (Val.int 0).cells ++ List.replicate (L - i) (Val.mk 0 0 noS []).cells)),
      (.l 6 0, .box [vI 0, vI 0, vS noS, .nil]), (.e 0, .box [.lst (m.consts.map Val.cells), .lst (m.funcs.map Fnc.cells), .arr (.e 1) 0 sts.length, vI fuel]),
      (.e 1, .row t_api_Value 4 true (sts.map Val.cells)), (.e 2, .row t_api_Value 4 true (args.map Val.cells))]) (Wk.subs (by simp) (by simp)) ?_
  intro i hi
  simp (config := { contextual := true, maxSteps := 2000000 }) (disch := omega) [-Int.not_lt, -Int.not_le, -Nat.not_lt, -Nat.not_le, elemK_get, wrapI, leT, leF, ltT, ltF, leTn, leFn, ltTn, ltFn]
  refine ⟨fun hlt => ?_, fun hge => ?_⟩
  · clear hr
    refine callN_go ?_; simp; refine callA_of (value_Int_spec 0) (by simp) ?_
    simp (config := { contextual := true, maxSteps := 2000000 }) (disch := omega) [-Int.not_lt, -Int.not_le, -Nat.not_lt, -Nat.not_le, elemK_get, wrapI, leT, leF, ltT, ltF, leTn, leFn, ltTn, ltFn]
    refine elemK_of (e := (Val.mk 0 0 noS []).cells) (by rw [List.getElem?_append_right (by simp)]; simp [List.getElem?_replicate]; omega) ?_
    simp (config := { contextual := true, maxSteps := 2000000 }) (disch := omega) [-Int.not_lt, -Int.not_le, -Nat.not_lt, -Nat.not_le, elemK_get, wrapI, leT, leF, ltT, ltF, leTn, leFn, ltTn, ltFn]
    rw [fill_step _ _ _ _ hlt]
    exact .of hlt (Wk.subs (by simp) (by simp))
  have hiL : L = i := by omega
  subst hiL
  refine loopS_while (fun y : Nat × Fr × List Val => y.1) (fun y => [(7, .bp (.l 30 0) 0), (6, .bp (.l 6 0) 0)])
    (fun y => [(.l 30 0, .box [.bp (.e 0) 0, vI f.params, vI L, vI f.zero, vI f.stack, .lst (f.code.map Ins.cells), .arr (.l 28 0) 0 y.2.1.loc.length, .arr (.l 999 0) 0 y.2.1.stk.length, vI y.2.1.at_]),
      (.l 28 0, .row t_api_Value 4 true (y.2.1.loc.map Val.cells)), (.l 999 0, .row t_api_Value 4 true (y.2.1.stk.map Val.cells ++ y.2.2.map Val.cells)), (.l 6 0, .box [vI 0, vI 0, vS noS, .nil]),
      (.e 0, .box [.lst (m.consts.map Val.cells), .lst (m.funcs.map Fnc.cells), .arr (.e 1) 0 y.2.1.sts.length, vI y.2.1.fuel]), (.e 1, .row t_api_Value 4 true (y.2.1.sts.map Val.cells)), (.e 2, .row t_api_Value 4 true (args.map Val.cells))])
    (fun y => run m y.1 f y.2.1 = some out ∧ y.1 ≤ g) (g, f.start args sts fuel, []) ⟨hr, Nat.le_refl _⟩
    (Wk.trans (Wk.subs (by simp [Fnc.start, hL]) (by simp [Fnc.start, hL]; omega)) (Wk.rowB (b := .l 30 0) (id := .l 999 0) (off := 7) (ty := t_api_Value) (sz := 4) rfl rfl (by simp) (by simp))) ?_
  rintro ⟨k, S, junk⟩ ⟨hrun, hk⟩
  simp only at hrun hk
  cases k with
  | zero => cases hrun
  | succ k =>
  unfold run at hrun
  have hfit : S.fit := Classical.byContradiction fun h => by rw [if_neg h] at hrun; cases hrun
  rw [if_pos hfit] at hrun
  obtain ⟨ins, hci, hrun⟩ := Option.bind_eq_some_iff.1 hrun
  obtain ⟨hal, hce⟩ := List.getElem?_eq_some_iff.1 hci
  have ha0 := hfit.a0
  simp (config := { contextual := true, maxSteps := 2000000 }) (disch := omega) [-Int.not_lt, -Int.not_le, -Nat.not_lt, -Nat.not_le, elemK_get, wrapI, leT, leF, ltT, ltF, leTn, leFn, ltTn, ltFn]
  generalize f.code[S.at_.toNat] = ins' at *
  subst hce
  refine ⟨fun h10 => ?_, fun h10 => ?_⟩
  · rw [if_pos h10] at hrun
    obtain ⟨⟨s, v⟩, hpop, rfl⟩ := Option.map_eq_some_iff.1 hrun
    refine callS_obj [.l 30 0, .e 0, .l 28 0, .l 999 0, .e 1] rfl rfl (by simp) ?_
    simp
    have hpO := vm_frame_pop_spec ⟨f, S.loc, S.stk, junk, S.at_ + 1, m, S.sts, S.fuel⟩ s v (popL_eq hpop) hfit.len
    simp [VmS.obs, hL] at hpO
    refine callJ_ret 75 hpO (by simp) ?_
    clear hpO
    simp (config := { contextual := true, maxSteps := 2000000 }) (disch := omega) [-Int.not_lt, -Int.not_le, -Nat.not_lt, -Nat.not_le, elemK_get, wrapI, leT, leF, ltT, ltF, leTn, leFn, ltTn, ltFn]
    refine endR _ _ (Wk.refl _ _) [] (by simp) ?_
    simp (config := { contextual := true, maxSteps := 2000000 }) (disch := omega) [-Int.not_lt, -Int.not_le, -Nat.not_lt, -Nat.not_le, elemK_get, wrapI, leT, leF, ltT, ltF, leTn, leFn, ltTn, ltFn, OutIs, machObs]
  · rw [if_neg h10] at hrun
    obtain ⟨r, ⟨g', htab, hdo⟩, hr2⟩ := step_done hm (IH k (by omega)) hfit h10 hrun
    refine callN_go ?_; simp; refine callA_of (htab) (by simp) ?_
    simp (config := { contextual := true, maxSteps := 2000000 }) (disch := omega) [-Int.not_lt, -Int.not_le, -Nat.not_lt, -Nat.not_le, elemK_get, wrapI, leT, leF, ltT, ltF, leTn, leFn, ltTn, ltFn]
    have hD := hdo f junk
    cases r with
    | on S' =>
      obtain ⟨junk', hJ | hJ⟩ := hD
      · refine callS_obj [.l 30 0, .e 0, .l 28 0, .l 999 0, .e 1] rfl rfl (by simp) ?_
        simp
        simp [VmS.obs, Fr.vm, hL] at hJ
        refine callJ_ret 82 hJ (by simp) ?_
        clear hJ
        simp (config := { contextual := true, maxSteps := 2000000 }) (disch := omega) [-Int.not_lt, -Int.not_le, -Nat.not_lt, -Nat.not_le, elemK_get, wrapI, leT, leF, ltT, ltF, leTn, leFn, ltTn, ltFn]
        exact .of (k, S', junk') ⟨hr2, by omega⟩ (Nat.lt_succ_self k) (Wk.subs (by simp) (by simp))
      · refine callS_obj [.l 30 0, .e 0, .l 28 0, .l 999 0, .e 1] rfl rfl (by simp) ?_
        simp
        simp [VmS.obs, VmS.obs', Fr.vm, hL] at hJ
        refine callJ_ret 82 hJ (by simp) ?_
        clear hJ
        simp (config := { contextual := true, maxSteps := 2000000 }) (disch := omega) [-Int.not_lt, -Int.not_le, -Nat.not_lt, -Nat.not_le, elemK_get, wrapI, leT, leF, ltT, ltF, leTn, leFn, ltTn, ltFn]
        exact .of (k, S', junk') ⟨hr2, by omega⟩ (Nat.lt_succ_self k) (Wk.rens (.l 82 0) (.l 999 0) rfl (by simp) (by simp [renF]) (by simp [renF, unren]))
    | trap e S' =>
      obtain ⟨junk', hJ⟩ := hD
      simp only at hr2
      subst hr2
      refine callS_obj [.l 30 0, .e 0, .l 28 0, .l 999 0, .e 1] rfl rfl (by simp) ?_
      simp
      simp [VmS.obs, Fr.vm, hL] at hJ
      refine callJ_pan hJ ?_
      clear hJ
      simp (config := { contextual := true, maxSteps := 2000000 }) (disch := omega) [-Int.not_lt, -Int.not_le, -Nat.not_lt, -Nat.not_le, elemK_get, wrapI, leT, leF, ltT, ltF, leTn, leFn, ltTn, ltFn]
      refine endP ?_
      simp (config := { contextual := true, maxSteps := 2000000 }) (disch := omega) [-Int.not_lt, -Int.not_le, -Nat.not_lt, -Nat.not_le, elemK_get, wrapI, leT, leF, ltT, ltF, leTn, leFn, ltTn, ltFn, OutIs, machObs]
end Go.Am
end

section
namespace Go.Am
set_option maxRecDepth 100000
attribute [local irreducible] vc vcIs vcI vcOp vcD vcDp vcDR vcT vcAR stepD stepDp panD neG ne pv J callS callN loopS lookK evK evsK nthK objK boxK rowK boolK intK strK aggK fnK ifcK cellsK cellsLK ldK ldaK iaK srcK stK appK appD isnlD pvK callJ callJD callA
theorem vm_copies_own (l : List Val) (hl : Val.wtL l < 2 ^ 40) : J prog f_vm_copies [valsV l] [] (· = .ret (.arr (.e 0) 0 l.length) [.row t_api_Value 4 true (l.map Val.cells)]) := by
  have hlen := Val.len_wtL l
  refine J_genW fn_vm_copies (by simp) ?_
  simp (config := { contextual := true, maxSteps := 2000000 }) (disch := omega) [-Int.not_lt, -Int.not_le, -Nat.not_lt, -Nat.not_le, elemK_get, wrapI, leT, leF, ltT, ltF, leTn, leFn, ltTn, ltFn, cd_vm_copies]
  refine loopS_for l.length (fun i => [(8, vI i), (7, vI l.length), (6, valsV l), (3, .arr (.l 16 0) 0 i)]) (fun i => [(.l 16 0, .row t_api_Value 4 true ((l.take i).map Val.cells))])
    (Wk.trans (Wk.subs (by simp) (by simp)) (Wk.row (s := 3) (id := .l 16 0) (ty := t_api_Value) (sz := 4) rfl)) ?_
  intro i hi
  simp (config := { contextual := true, maxSteps := 2000000 }) (disch := omega) [-Int.not_lt, -Int.not_le, -Nat.not_lt, -Nat.not_le, elemK_get, wrapI, leT, leF, ltT, ltF, leTn, leFn, ltTn, ltFn]
  refine ⟨fun hlt => ?_, fun hge => ?_⟩
  · refine callS_go ?_; simp; refine callA_of (value_Copy_spec _ (Val.wtL_get hl)) (by simp) ?_
    simp (config := { contextual := true, maxSteps := 2000000 }) (disch := omega) [-Int.not_lt, -Int.not_le, -Nat.not_lt, -Nat.not_le, elemK_get, wrapI, leT, leF, ltT, ltF, leTn, leFn, ltTn, ltFn]
    exact .of hlt (Wk.subs (by simp) (by simp))
  · have : i = l.length := by omega
    subst this
    refine endR _ _ (Wk.refl _ _) [.l 16 0] (by simp) ?_
    simp (config := { contextual := true, maxSteps := 2000000 }) (disch := omega) [-Int.not_lt, -Int.not_le, -Nat.not_lt, -Nat.not_le, elemK_get, wrapI, leT, leF, ltT, ltF, leTn, leFn, ltTn, ltFn]
theorem vm_copies_arr (l : List Val) (hl : Val.wtL l < 2 ^ 40) : J prog f_vm_copies [.arr (.e 0) 0 l.length] [.row t_api_Value 4 true (l.map Val.cells)] (· = .ret (.arr (.e 1) 0 l.length) [.row t_api_Value 4 true (l.map Val.cells), .row t_api_Value 4 true (l.map Val.cells)]) := by
  have hlen := Val.len_wtL l
  refine J_genW fn_vm_copies (by simp) ?_
  simp (config := { contextual := true, maxSteps := 2000000 }) (disch := omega) [-Int.not_lt, -Int.not_le, -Nat.not_lt, -Nat.not_le, elemK_get, wrapI, leT, leF, ltT, ltF, leTn, leFn, ltTn, ltFn, cd_vm_copies, hpE]
  refine loopS_for l.length (fun i => [(8, vI i), (7, vI l.length), (6, .arr (.e 0) 0 l.length), (3, .arr (.l 16 0) 0 i)]) (fun i => [(.l 16 0, .row t_api_Value 4 true ((l.take i).map Val.cells)), (.e 0, .row t_api_Value 4 true (l.map Val.cells))])
    (Wk.trans (Wk.subs (by simp) (by simp)) (Wk.row (s := 3) (id := .l 16 0) (ty := t_api_Value) (sz := 4) rfl)) ?_
  intro i hi
  simp (config := { contextual := true, maxSteps := 2000000 }) (disch := omega) [-Int.not_lt, -Int.not_le, -Nat.not_lt, -Nat.not_le, elemK_get, wrapI, leT, leF, ltT, ltF, leTn, leFn, ltTn, ltFn]
  refine ⟨fun hlt => ?_, fun hge => ?_⟩
  · refine callS_go ?_; simp; refine callA_of (value_Copy_spec _ (Val.wtL_get hl)) (by simp) ?_
    simp (config := { contextual := true, maxSteps := 2000000 }) (disch := omega) [-Int.not_lt, -Int.not_le, -Nat.not_lt, -Nat.not_le, elemK_get, wrapI, leT, leF, ltT, ltF, leTn, leFn, ltTn, ltFn]
    exact .of hlt (Wk.subs (by simp) (by simp))
  · have : i = l.length := by omega
    subst this
    refine endR _ _ (Wk.refl _ _) [.l 16 0] (by simp) ?_
    simp (config := { contextual := true, maxSteps := 2000000 }) (disch := omega) [-Int.not_lt, -Int.not_le, -Nat.not_lt, -Nat.not_le, elemK_get, wrapI, leT, leF, ltT, ltF, leTn, leFn, ltTn, ltFn]
abbrev machB (m : Mdl) (n : Nat) (row : Id) (fuel : Int) : Ob := .box [.lst (m.consts.map Val.cells), .lst (m.funcs.map Fnc.cells), .arr row 0 n, vI fuel]
abbrev dfrObs (states : List Val) (out : V) (told : List V) (m : Mdl) (sts : List Val) (fuel : Int) : List Ob :=
  [.box [valsV states], .box [.bp (.e 4) 0], .box [out], .box told, machB m sts.length (.e 5) fuel, .row t_api_Value 4 true (sts.map Val.cells)]
abbrev dfrArgs : List V := [.bp (.e 0) 0, .bp (.e 1) 0, .bp (.e 2) 0, .bp (.e 3) 0]
theorem vm_Run_1_none (states o : List Val) (v : Val) (e' f' : Int) (m : Mdl) (sts : List Val) (fuel : Int) :
    JD prog true f_vm_Run_1 dfrArgs (dfrObs states (valsV o) [vI v.kind, vI v.num, vS v.text, valsV v.list, vI e', vI f'] m sts fuel) none (· = .ret (.tup []) (dfrObs states (valsV o) [vI v.kind, vI v.num, vS v.text, valsV v.list, vI e', vI f'] m sts fuel)) := by
  refine JR_of fn_vm_Run_1 (by simp) (by simp) ?_
  simp (config := { contextual := true, maxSteps := 2000000 }) (disch := omega) [-Int.not_lt, -Int.not_le, -Nat.not_lt, -Nat.not_le, elemK_get, wrapI, leT, leF, ltT, ltF, leTn, leFn, ltTn, ltFn, cd_vm_Run_1, hpE, pvV]
  refine endN _ _ (Wk.refl _ _) [] (by simp) ?_
  simp (config := { contextual := true, maxSteps := 2000000 }) (disch := omega) [-Int.not_lt, -Int.not_le, -Nat.not_lt, -Nat.not_le, elemK_get, wrapI, leT, leF, ltT, ltF, leTn, leFn, ltTn, ltFn]
theorem vm_Run_1_some (states : List Val) (hw : Val.wtL states < 2 ^ 40) (m : Mdl) (sts : List Val) (e fuel : Int) :
    JD prog true f_vm_Run_1 dfrArgs (dfrObs states .nil [vI 0, vI 0, vS noS, .nil, vI 0, vI 0] m sts fuel) (some (trapV e)) (· = .ret (.tup []) (dfrObs states (valsV states) [vI 0, vI 0, vS noS, .nil, vI e, vI fuel] m sts fuel)) := by
  refine JR_of fn_vm_Run_1 (by simp) (by simp) ?_
  simp (config := { contextual := true, maxSteps := 2000000 }) (disch := omega) [-Int.not_lt, -Int.not_le, -Nat.not_lt, -Nat.not_le, elemK_get, wrapI, leT, leF, ltT, ltF, leTn, leFn, ltTn, ltFn, cd_vm_Run_1, hpE, pvV]
  refine callN_go ?_; simp; refine callA_of (vm_copies_spec states hw) (by simp) ?_
  simp (config := { contextual := true, maxSteps := 2000000 }) (disch := omega) [-Int.not_lt, -Int.not_le, -Nat.not_lt, -Nat.not_le, elemK_get, wrapI, leT, leF, ltT, ltF, leTn, leFn, ltTn, ltFn]
  refine endN _ _ (Wk.refl _ _) [] (by simp) ?_
  simp (config := { contextual := true, maxSteps := 2000000 }) (disch := omega) [-Int.not_lt, -Int.not_le, -Nat.not_lt, -Nat.not_le, elemK_get, wrapI, leT, leF, ltT, ltF, leTn, leFn, ltTn, ltFn]
end Go.Am
end

section
namespace Go.Am
variable {P : Program} {env : Env} {hp : Hp}
def dfrS (P : Program) (k : Nat) (t : Operand) (args : List Operand) (c : Cd) (QD : FuncId → List V → Qs) (e : Env) (h : Hp) : Prop :=
  ∃ g caps vs, Env.ev e t = some (.fn g caps) ∧ args.mapM (Env.ev e) = some vs ∧ ∃ E h' cs', WkE k E h' cs' e h (vs ++ caps) ∧ V.allEL cs' = true ∧ vc P c E h' (QD g cs')
theorem vcF_seq {k c f Q QD} : vcF P k (.seq c f) env hp Q QD = vc P c env hp (hold (thenQ (fun e h => vcF P k f e h Q QD) Q)) := _root_.id rfl
theorem vcF_dfr {k is t args c Q QD} : vcF P k (.dfr is t args c) env hp Q QD = vcIs P env hp is (hold fun e h => dfrS P k t args c QD e h) (hold fun v h => Q (.pan v) [] h) := _root_.id rfl
theorem dfrS_go {k t args c QD} {g : FuncId} {caps vs cs' : List V} {E : Env} {h' : Hp} (h1 : Env.ev env t = some (.fn g caps)) (h2 : args.mapM (Env.ev env) = some vs) (hw : WkE k E h' cs' env hp (vs ++ caps)) (ha : V.allEL cs' = true)
    (h : vc P c E h' (QD g cs')) : dfrS P k t args c QD env hp := ⟨g, caps, vs, h1, h2, E, h', cs', hw, ha, h⟩
theorem JD.mono {rec : Bool} {f : FuncId} {args : List V} {obs : List Ob} {pv : Option V} {Q Q' : Res → Prop} (h : JD P rec f args obs pv Q) (hq : ∀ r, Q r → Q' r) : JD P rec f args obs pv Q' := fun H μ vs w u h1 h2 h3 => by
  obtain ⟨k1, k2⟩ := h H μ vs w u h1 h2 h3
  refine ⟨k1, k2.mono fun e u' w' ⟨q1, r, H', μ', q2, q3⟩ => ⟨q1, r, H', μ', hq r q2, q3⟩⟩
def dJ (P : Program) (rec : Bool) (g : FuncId) (args : List V) (obs : List Ob) (pv : Option V) (env : Env) (hp : Hp) (ids : List Id) (K : Env → Hp → Prop) : Prop :=
  JD P rec g args obs pv fun r => match r with
    | .ret v obs' => obs'.length ≤ ids.length ∧ backV env hp ids 0 v obs' fun _ env' hp' => K env' hp'
    | .pan _ _ => False
theorem dCall_obj {rec : Bool} {g : FuncId} {cs : List V} {pv : Option V} {K : Env → Hp → Prop} (ids : List Id) (hnd : ids.Nodup)
    (h : V.seeL false ids (Hp.frz (.tup (V.hideL ids (cs ++ boxes hp ids))) hp) cs (hold fun us => mapLK (toE ids 0) us (hold fun args =>
      handV ids (Hp.frz (.tup (V.hideL ids (cs ++ boxes hp ids))) hp) ids (hold fun obs => dJ P rec g args obs pv env (Hp.frz (.tup (V.hideL ids (cs ++ boxes hp ids))) hp) ids K)))) : dCall P rec g cs pv env hp K :=
  ⟨ids, hnd, h⟩
theorem dJ_ret {rec : Bool} {g : FuncId} {args : List V} {obs obs' : List Ob} {pv : Option V} {ids : List Id} {K : Env → Hp → Prop} {v : V} (h : JD P rec g args obs pv (· = .ret v obs')) (hl : obs'.length ≤ ids.length)
    (hK : backV env hp ids 0 v obs' (hold fun _ env' hp' => K env' hp')) : dJ P rec g args obs pv env hp ids K := h.mono fun r e => by subst e; exact ⟨hl, hK⟩
theorem dEnd_ret {k : Nat} {rs : List IOp} {Q : Res → Prop} {rec : Bool} {g : FuncId} {cs : List V} (E : Env) (h : Hp) (hw : Wk E h env hp) (hd : dCall P rec g cs none E h (wkQ (retX k rs Q) .ret)) : dEnd P k rs Q rec g cs .ret env hp := ⟨E, h, hw, hd⟩
theorem dEnd_pan {k : Nat} {rs : List IOp} {Q : Res → Prop} {g : FuncId} {cs : List V} {p : V} (hpu : p.pure = true) (E : Env) (h : Hp) (hw : Wk E h env hp) (hd : dCall P true g cs (some p) E h (wkQ (retX k rs Q) .ret)) : dEnd P k rs Q true g cs (.pan p) env hp := ⟨hpu, E, h, hw, hd⟩
end Go.Am
end

section
namespace Go.Am
set_option maxRecDepth 100000
attribute [local irreducible] vc vcIs vcI vcOp vcD vcDp vcDR vcT vcAR stepD stepDp panD neG ne pv J callS callN loopS lookK evK evsK nthK objK boxK rowK boolK intK strK aggK fnK ifcK cellsK cellsLK ldK ldaK iaK srcK stK appK appD isnlD pvK callJ callJD callA
attribute [local irreducible] vcF dfrS dEnd dCall dJ JD
def minmax (fuel : Int) : Int := if 4096 < if fuel < 0 then 0 else fuel then 4096 else if fuel < 0 then 0 else fuel
theorem minmax_eq (fuel : Int) : (if 4096 < if fuel < 0 then 0 else fuel then 4096 else if fuel < 0 then 0 else fuel) = minmax fuel := rfl
def ocells (v : Val) (e fuel : Int) : List V := [vI v.kind, vI v.num, vS v.text, valsV v.list, vI e, vI fuel]
def RunIs (states : List Val) : Out → V
  | .val v sts fuel => .tup [valsV sts, .agg (ocells v 0 fuel)]
  | .trap e sts fuel => .tup [valsV states, .agg (ocells Val.zero e fuel)]
structure Mdl.small (m : Mdl) : Prop where
  hc : ∀ v ∈ m.consts, v.wt < 2 ^ 40
  hcl : m.consts.length < 2 ^ 40
  hfl : m.funcs.length < 2 ^ 40
  hf : ∀ f ∈ m.funcs, f.code.length < 2 ^ 40
def sOk (v : Val) : Bool := decide (v.wt ≤ 16384) && v.sound
structure Begins (m : Mdl) (states : List Val) (n : Int) (args : List Val) : Prop where
  ver : m.vOk states.length
  n0 : 0 ≤ n
  n1 : n.toNat < m.funcs.length
  ar : (args.length : Int) = (m.funcs[n.toNat]).params
  st : states.all sOk = true
  ag : args.all sOk = true
abbrev dE (a b c : Id) (n : Int) (args : List Val) : Env := [(12, .bp a 0), (2, vI n), (3, valsV args), (10, .bp b 0), (11, .bp c 0)]
abbrev dH (a b c : Id) (m : Mdl) (states : List Val) (fuel : Int) : Hp :=
  [(a, .box [.bp (.l 60 0) 0]), (.l 60 0, .box [.lst (m.consts.map Val.cells), .lst (m.funcs.map Fnc.cells), .arr (.l 57 0) 0 states.length, vI fuel]), (.l 57 0, .row t_api_Value 4 true (states.map Val.cells)),
    (c, .box [vI 0, vI 0, vS noS, .nil, vI 0, vI 0]), (b, .box [.nil]), (.e 0, .box [valsV states])]
theorem vm_Run_ok (m : Mdl) (hm : m.small) (states : List Val) (n : Int) (args : List Val) (fuel : Int) (hs : Val.wtL states < 2 ^ 40) (ha : Val.wtL args < 2 ^ 40) (hb : Begins m states n args)
    (g : Nat) (out : Out) (hr : run m g (m.funcs[n.toNat]'hb.n1) ((m.funcs[n.toNat]'hb.n1).start args states (minmax fuel)) = some out)
    (hw : ∀ v sts fuel, out = .val v sts fuel → v.wt < 2 ^ 40 ∧ Val.wtL sts < 2 ^ 40) :
    Ret prog f_vm_Run [m.V, valsV states, vI n, valsV args, vI fuel] (RunIs states out) := by
  have hsl := Val.len_wtL states
  have hal := Val.len_wtL args
  have hver := m.ver_ok hb.ver
  have n0 := hb.n0
  have n1 := hb.n1
  have har := hb.ar
  have hst : (states.all fun v => decide (v.wt ≤ 16384) && v.sound) = true := hb.st
  have hag : (args.all fun v => decide (v.wt ≤ 16384) && v.sound) = true := hb.ag
  have hws : ∀ x ∈ states, x.wt < 2 ^ 40 := fun x hx => by have := Val.wtL_mem hx; omega
  have hwa : ∀ x ∈ args, x.wt < 2 ^ 40 := fun x hx => by have := Val.wtL_mem hx; omega
  refine J_dfr true fn_vm_Run (by simp) ?_
  simp (config := { contextual := true, maxSteps := 2000000 }) (disch := omega) [-Int.not_lt, -Int.not_le, -Nat.not_lt, -Nat.not_le, elemK_get, wrapI, leT, leF, ltT, ltF, leTn, leFn, ltTn, ltFn, fc_vm_Run, vcF_seq, vcF_dfr, minmax_eq]
  refine callS_go ?_; simp; refine callA_of (code_Verify_spec m states.length hm.hc hm.hcl hm.hfl hm.hf) (by simp) ?_
  rw [hver]
  simp (config := { contextual := true, maxSteps := 2000000 }) (disch := omega) [-Int.not_lt, -Int.not_le, -Nat.not_lt, -Nat.not_le, elemK_get, wrapI, leT, leF, ltT, ltF, leTn, leFn, ltTn, ltFn, ← har]
  refine callS_go ?_; simp; refine callA_of (vm_all_spec states (by omega) hws) (by simp) ?_
  rw [hst]
  simp (config := { contextual := true, maxSteps := 2000000 }) (disch := omega) [-Int.not_lt, -Int.not_le, -Nat.not_lt, -Nat.not_le, elemK_get, wrapI, leT, leF, ltT, ltF, leTn, leFn, ltTn, ltFn]
  refine callS_go ?_; simp; refine callA_of (vm_all_spec args (by omega) hwa) (by simp) ?_
  rw [hag]
  simp (config := { contextual := true, maxSteps := 2000000 }) (disch := omega) [-Int.not_lt, -Int.not_le, -Nat.not_lt, -Nat.not_le, elemK_get, wrapI, leT, leF, ltT, ltF, leTn, leFn, ltTn, ltFn]
  rw [vcF_seq]
  simp (config := { contextual := true, maxSteps := 2000000 }) (disch := omega) [-Int.not_lt, -Int.not_le, -Nat.not_lt, -Nat.not_le, elemK_get, wrapI, leT, leF, ltT, ltF, leTn, leFn, ltTn, ltFn]
  refine callN_obj [] [] rfl rfl (by simp) ?_
  simp
  have hpO := vm_copies_own states hs
  try simp [VmS.obs, VmS.obs', machObs] at hpO
  refine callJD_ret 57 hpO (by simp) ?_
  clear hpO
  simp (config := { contextual := true, maxSteps := 2000000 }) (disch := omega) [-Int.not_lt, -Int.not_le, -Nat.not_lt, -Nat.not_le, elemK_get, wrapI, leT, leF, ltT, ltF, leTn, leFn, ltTn, ltFn]
  rw [vcF_dfr]
  simp (config := { contextual := true, maxSteps := 2000000 }) (disch := omega) [-Int.not_lt, -Int.not_le, -Nat.not_lt, -Nat.not_le, elemK_get, wrapI, leT, leF, ltT, ltF, leTn, leFn, ltTn, ltFn]
  refine dfrS_go rfl rfl (.trans (.ren (.l 6 0) 0 (by simp) (by simp) (E := dE (.l 12 0) (.l 10 0) (.l 11 0) n args) (h := dH (.l 12 0) (.l 10 0) (.l 11 0) m states (minmax fuel)) (cs' := [.bp (.e 0) 0, .bp (.l 12 0) 0, .bp (.l 10 0) 0, .bp (.l 11 0) 0]) (by simp [renF]) (by simp [renF, unren]) (by simp [renF]))
    (.trans (.ren (.l 12 0) 1 (by simp) (by simp) (E := dE (.e 1) (.l 10 0) (.l 11 0) n args) (h := dH (.e 1) (.l 10 0) (.l 11 0) m states (minmax fuel)) (cs' := [.bp (.e 0) 0, .bp (.e 1) 0, .bp (.l 10 0) 0, .bp (.l 11 0) 0]) (by simp [renF]) (by simp [renF, unren]) (by simp [renF]))
    (.trans (.ren (.l 10 0) 2 (by simp) (by simp) (E := dE (.e 1) (.e 2) (.l 11 0) n args) (h := dH (.e 1) (.e 2) (.l 11 0) m states (minmax fuel)) (cs' := [.bp (.e 0) 0, .bp (.e 1) 0, .bp (.e 2) 0, .bp (.l 11 0) 0]) (by simp [renF]) (by simp [renF, unren]) (by simp [renF]))
    (.ren (.l 11 0) 3 (by simp) (by simp) (E := dE (.e 1) (.e 2) (.e 3) n args) (h := dH (.e 1) (.e 2) (.e 3) m states (minmax fuel)) (cs' := [.bp (.e 0) 0, .bp (.e 1) 0, .bp (.e 2) 0, .bp (.e 3) 0]) (by simp [renF]) (by simp [renF, unren]) (by simp [renF]))))) rfl ?_
  simp (config := { contextual := true, maxSteps := 2000000 }) (disch := omega) [-Int.not_lt, -Int.not_le, -Nat.not_lt, -Nat.not_le, elemK_get, wrapI, leT, leF, ltT, ltF, leTn, leFn, ltTn, ltFn]
  refine callN_obj [] [] rfl rfl (by simp) ?_
  simp
  have hpO := vm_copies_own args ha
  try simp [VmS.obs, VmS.obs', machObs] at hpO
  refine callJD_ret 65 hpO (by simp) ?_
  clear hpO
  simp (config := { contextual := true, maxSteps := 2000000 }) (disch := omega) [-Int.not_lt, -Int.not_le, -Nat.not_lt, -Nat.not_le, elemK_get, wrapI, leT, leF, ltT, ltF, leTn, leFn, ltTn, ltFn]
  have hokc : ∀ f ∈ m.funcs, f.okc := fun f hf => by
    obtain ⟨k, hk, rfl⟩ := List.getElem_of_mem hf
    have b := (hb.ver.fn k hk).bnd
    have := b.l1; have := b.c1
    exact ⟨b.p0, b.l0, by omega, by omega⟩
  have hargs : args.length ≤ (m.funcs[n.toNat]).locals.toNat := by
    have := (hb.ver.fn _ n1).bnd.l0
    omega
  have hJ := vm_call_ok hokc g n.toNat _ args states (minmax fuel) out n1 rfl hargs hr
  rw [show ((n.toNat : Nat) : Int) = n by omega] at hJ
  cases out with
  | val v sts fu =>
    obtain ⟨hwv, hwst⟩ := hw v sts fu rfl
    clear hr hw
    have hJ : J _ _ _ _ (fun r => r = _) := hJ
    refine callN_obj [.l 60 0, .l 57 0, .l 65 0] [.l 60 0, .l 57 0, .l 65 0] rfl rfl (by simp) ?_
    simp
    have hpO := hJ
    try simp [VmS.obs, VmS.obs', machObs] at hpO
    refine callJD_ret 66 hpO (by simp) ?_
    clear hpO
    simp (config := { contextual := true, maxSteps := 2000000 }) (disch := omega) [-Int.not_lt, -Int.not_le, -Nat.not_lt, -Nat.not_le, elemK_get, wrapI, leT, leF, ltT, ltF, leTn, leFn, ltTn, ltFn]
    refine callN_obj [.l 57 0] [.l 57 0] rfl rfl (by simp) ?_
    simp
    have hpO := vm_copies_arr sts hwst
    try simp [VmS.obs, VmS.obs', machObs] at hpO
    refine callJD_ret 71 hpO (by simp) ?_
    clear hpO
    simp (config := { contextual := true, maxSteps := 2000000 }) (disch := omega) [-Int.not_lt, -Int.not_le, -Nat.not_lt, -Nat.not_le, elemK_get, wrapI, leT, leF, ltT, ltF, leTn, leFn, ltTn, ltFn]
    refine callN_go ?_; simp; refine callA_of (value_Copy_spec v hwv) (by simp) ?_
    have hbuild : List.take 5 (v.cells ++ [vI 0, vI 0]) ++ vI fu :: List.drop 6 (v.cells ++ [vI 0, vI 0]) = [vI v.kind, vI v.num, vS v.text, valsV v.list, vI 0, vI fu] := by rw [Val.cells_eq]; rfl
    simp (config := { contextual := true, maxSteps := 2000000 }) (disch := omega) [-Int.not_lt, -Int.not_le, -Nat.not_lt, -Nat.not_le, elemK_get, wrapI, leT, leF, ltT, ltF, leTn, leFn, ltTn, ltFn, hbuild]
    refine dEnd_ret _ _ (Wk.refl _ _) (dCall_obj [.e 0, .e 1, .e 2, .e 3, .l 60 0, .l 57 0] (by simp) ?_)
    simp
    refine dJ_ret (vm_Run_1_none states sts v 0 fu m sts fu) (by simp) ?_
    simp
    refine endR _ _ (Wk.refl _ _) [] (by simp) ?_
    simp (config := { contextual := true, maxSteps := 2000000 }) (disch := omega) [-Int.not_lt, -Int.not_le, -Nat.not_lt, -Nat.not_le, elemK_get, wrapI, leT, leF, ltT, ltF, leTn, leFn, ltTn, ltFn, RunIs, ocells]
  | trap e sts fu =>
    clear hr hw
    have hJ : J _ _ _ _ (fun r => r = _) := hJ
    refine callN_obj [.l 60 0, .l 57 0, .l 65 0] [.l 60 0, .l 57 0, .l 65 0] rfl rfl (by simp) ?_
    simp
    have hpO := hJ
    try simp [VmS.obs, VmS.obs', machObs] at hpO
    refine callJD_pan hpO ?_
    clear hpO
    simp (config := { contextual := true, maxSteps := 2000000 }) (disch := omega) [-Int.not_lt, -Int.not_le, -Nat.not_lt, -Nat.not_le, elemK_get, wrapI, leT, leF, ltT, ltF, leTn, leFn, ltTn, ltFn]
    refine dEnd_pan (by simp) _ _ (Wk.refl _ _) (dCall_obj [.e 0, .e 1, .e 2, .e 3, .l 60 0, .l 57 0] (by simp) ?_)
    simp
    refine dJ_ret (vm_Run_1_some states hs m sts e fu) (by simp) ?_
    simp
    refine endR _ _ (Wk.refl _ _) [] (by simp) ?_
    simp (config := { contextual := true, maxSteps := 2000000 }) (disch := omega) [-Int.not_lt, -Int.not_le, -Nat.not_lt, -Nat.not_le, elemK_get, wrapI, leT, leF, ltT, ltF, leTn, leFn, ltTn, ltFn, RunIs, ocells, Val.zero, stab, V.allE, V.allEL, dE, List.filter_cons, Id.isE]
end Go.Am
end

section
namespace Go.Am
set_option maxRecDepth 100000
attribute [local irreducible] vc vcIs vcI vcOp vcD vcDp vcDR vcT vcAR stepD stepDp panD neG ne pv J callS callN loopS lookK evK evsK nthK objK boxK rowK boolK intK strK aggK fnK ifcK cellsK cellsLK ldK ldaK iaK srcK stK appK appD isnlD pvK callJ callJD callA
attribute [local irreducible] vcF dfrS dEnd dCall dJ JD
theorem vm_Run_bad (m : Mdl) (hm : m.small) (states : List Val) (n : Int) (args : List Val) (fuel : Int) (hs : Val.wtL states < 2 ^ 40) (ha : Val.wtL args < 2 ^ 40) (hb : ¬ Begins m states n args) :
    Ret prog f_vm_Run [m.V, valsV states, vI n, valsV args, vI fuel] (.tup [valsV [], .agg (ocells Val.zero 40 0)]) := by
  have hsl := Val.len_wtL states
  have hal := Val.len_wtL args
  have hws : ∀ x ∈ states, x.wt < 2 ^ 40 := fun x hx => by have := Val.wtL_mem hx; omega
  have hwa : ∀ x ∈ args, x.wt < 2 ^ 40 := fun x hx => by have := Val.wtL_mem hx; omega
  refine J_dfr true fn_vm_Run (by simp) ?_
  simp (config := { contextual := true, maxSteps := 2000000 }) (disch := omega) [-Int.not_lt, -Int.not_le, -Nat.not_lt, -Nat.not_le, elemK_get, wrapI, leT, leF, ltT, ltF, leTn, leFn, ltTn, ltFn, fc_vm_Run, vcF_seq, vcF_dfr, minmax_eq]
  refine callS_go ?_; simp; refine callA_of (code_Verify_spec m states.length hm.hc hm.hcl hm.hfl hm.hf) (by simp) ?_
  by_cases hver : m.vOk states.length
  case neg =>
    rw [m.ver_bad hver]
    simp (config := { contextual := true, maxSteps := 2000000 }) (disch := omega) [-Int.not_lt, -Int.not_le, -Nat.not_lt, -Nat.not_le, elemK_get, wrapI, leT, leF, ltT, ltF, leTn, leFn, ltTn, ltFn]
    refine endR _ _ (Wk.refl _ _) [] (by simp) ?_
    simp (config := { contextual := true, maxSteps := 2000000 }) (disch := omega) [-Int.not_lt, -Int.not_le, -Nat.not_lt, -Nat.not_le, elemK_get, wrapI, leT, leF, ltT, ltF, leTn, leFn, ltTn, ltFn, ocells, Val.zero]
  rw [m.ver_ok hver]
  by_cases hn : 0 ≤ n ∧ n.toNat < m.funcs.length
  case neg =>
    simp (config := { contextual := true, maxSteps := 2000000 }) (disch := omega) [-Int.not_lt, -Int.not_le, -Nat.not_lt, -Nat.not_le, elemK_get, wrapI, leT, leF, ltT, ltF, leTn, leFn, ltTn, ltFn]
    refine ⟨fun _ => ?_, fun _ => ?_⟩
    · refine endR _ _ (Wk.refl _ _) [] (by simp) ?_
      simp (config := { contextual := true, maxSteps := 2000000 }) (disch := omega) [-Int.not_lt, -Int.not_le, -Nat.not_lt, -Nat.not_le, elemK_get, wrapI, leT, leF, ltT, ltF, leTn, leFn, ltTn, ltFn, ocells, Val.zero]
    · refine endR _ _ (Wk.refl _ _) [] (by simp) ?_
      simp (config := { contextual := true, maxSteps := 2000000 }) (disch := omega) [-Int.not_lt, -Int.not_le, -Nat.not_lt, -Nat.not_le, elemK_get, wrapI, leT, leF, ltT, ltF, leTn, leFn, ltTn, ltFn, ocells, Val.zero]
  obtain ⟨n0, n1⟩ := hn
  by_cases har : (args.length : Int) = (m.funcs[n.toNat]).params
  case neg =>
    simp (config := { contextual := true, maxSteps := 2000000 }) (disch := omega) [-Int.not_lt, -Int.not_le, -Nat.not_lt, -Nat.not_le, elemK_get, wrapI, leT, leF, ltT, ltF, leTn, leFn, ltTn, ltFn]
    refine ⟨fun _ => ?_, fun h => absurd h har⟩
    refine endR _ _ (Wk.refl _ _) [] (by simp) ?_
    simp (config := { contextual := true, maxSteps := 2000000 }) (disch := omega) [-Int.not_lt, -Int.not_le, -Nat.not_lt, -Nat.not_le, elemK_get, wrapI, leT, leF, ltT, ltF, leTn, leFn, ltTn, ltFn, ocells, Val.zero]
  by_cases hst : (states.all fun v => decide (v.wt ≤ 16384) && v.sound) = true
  case neg =>
    simp (config := { contextual := true, maxSteps := 2000000 }) (disch := omega) [-Int.not_lt, -Int.not_le, -Nat.not_lt, -Nat.not_le, elemK_get, wrapI, leT, leF, ltT, ltF, leTn, leFn, ltTn, ltFn, ← har]
    refine callS_go ?_; simp; refine callA_of (vm_all_spec states (by omega) hws) (by simp) ?_
    rw [Bool.not_eq_true] at hst
    rw [hst]
    simp (config := { contextual := true, maxSteps := 2000000 }) (disch := omega) [-Int.not_lt, -Int.not_le, -Nat.not_lt, -Nat.not_le, elemK_get, wrapI, leT, leF, ltT, ltF, leTn, leFn, ltTn, ltFn]
    refine endR _ _ (Wk.refl _ _) [] (by simp) ?_
    simp (config := { contextual := true, maxSteps := 2000000 }) (disch := omega) [-Int.not_lt, -Int.not_le, -Nat.not_lt, -Nat.not_le, elemK_get, wrapI, leT, leF, ltT, ltF, leTn, leFn, ltTn, ltFn, ocells, Val.zero]
  by_cases hag : (args.all fun v => decide (v.wt ≤ 16384) && v.sound) = true
  case neg =>
    simp (config := { contextual := true, maxSteps := 2000000 }) (disch := omega) [-Int.not_lt, -Int.not_le, -Nat.not_lt, -Nat.not_le, elemK_get, wrapI, leT, leF, ltT, ltF, leTn, leFn, ltTn, ltFn, ← har]
    refine callS_go ?_; simp; refine callA_of (vm_all_spec states (by omega) hws) (by simp) ?_
    rw [hst]
    simp (config := { contextual := true, maxSteps := 2000000 }) (disch := omega) [-Int.not_lt, -Int.not_le, -Nat.not_lt, -Nat.not_le, elemK_get, wrapI, leT, leF, ltT, ltF, leTn, leFn, ltTn, ltFn]
    refine callS_go ?_; simp; refine callA_of (vm_all_spec args (by omega) hwa) (by simp) ?_
    rw [Bool.not_eq_true] at hag
    rw [hag]
    simp (config := { contextual := true, maxSteps := 2000000 }) (disch := omega) [-Int.not_lt, -Int.not_le, -Nat.not_lt, -Nat.not_le, elemK_get, wrapI, leT, leF, ltT, ltF, leTn, leFn, ltTn, ltFn]
    refine endR _ _ (Wk.refl _ _) [] (by simp) ?_
    simp (config := { contextual := true, maxSteps := 2000000 }) (disch := omega) [-Int.not_lt, -Int.not_le, -Nat.not_lt, -Nat.not_le, elemK_get, wrapI, leT, leF, ltT, ltF, leTn, leFn, ltTn, ltFn, ocells, Val.zero]
  exact absurd ⟨hver, n0, n1, har, hst, hag⟩ hb
end Go.Am
end

section
namespace Go.Am
mutual
def Val.rng : Val → Prop
  | .mk _ n _ l => (-9223372036854775808 ≤ n ∧ n < 9223372036854775808) ∧ Val.rngL l
def Val.rngL : List Val → Prop
  | [] => True
  | v :: vs => v.rng ∧ Val.rngL vs
end
theorem Val.rng_eq (v : Val) : v.rng ↔ (-9223372036854775808 ≤ v.num ∧ v.num < 9223372036854775808) ∧ Val.rngL v.list := by
  obtain ⟨k, n, t, l⟩ := v; simp [Val.rng, Val.num, Val.list]
theorem Val.rngL_iff : ∀ (l : List Val), Val.rngL l ↔ ∀ x ∈ l, x.rng
  | [] => by simp [Val.rngL]
  | v :: l => by simp [Val.rngL, Val.rngL_iff l]
structure Val.ok (v : Val) : Prop where
  wt : v.wt ≤ 16384
  rng : v.rng
theorem Val.ok.num {v : Val} (h : v.ok) : -9223372036854775808 ≤ v.num ∧ v.num < 9223372036854775808 := (v.rng_eq.1 h.rng).1
theorem Val.ok.elem {v x : Val} (h : v.ok) (hx : x ∈ v.list) : x.ok := by
  have h1 := v.wt_eq
  have h2 := Val.wtL_mem hx
  have := h.wt
  exact ⟨by omega, (Val.rngL_iff _).1 (v.rng_eq.1 h.rng).2 x hx⟩
theorem ok_int {n : Int} (h1 : -9223372036854775808 ≤ n) (h2 : n < 9223372036854775808) : (Val.int n).ok := ⟨by simp only [Val.int, Val.wt, Val.wtL]; show 1 + 0 + 0 ≤ 16384; decide, by simp [Val.int, Val.rng, Val.rngL]; exact ⟨h1, h2⟩⟩
theorem ok_bool (b : Bool) : (Val.bool b).ok := ⟨by simp only [Val.bool, Val.wt, Val.wtL]; show 1 + 0 + 0 ≤ 16384; decide, by cases b <;> simp [Val.bool, Val.rng, Val.rngL]⟩
theorem ok_zero : Val.zero.ok := ⟨by simp only [Val.zero, Val.wt, Val.wtL]; show 1 + 0 + 0 ≤ 16384; decide, by simp [Val.zero, Val.rng, Val.rngL]⟩
theorem ok_str {s : ByteArray} (h : s.size ≤ 16383) : (Val.str s).ok := ⟨by simp [Val.str, Val.wt, Val.wtL]; omega, by simp [Val.str, Val.rng, Val.rngL]⟩
theorem ok_getD {v : Val} (h : v.ok) (i : Nat) : (v.list.getD i Val.zero).ok := by
  by_cases hi : i < v.list.length
  · rw [List.getD_eq_getElem?_getD, List.getElem?_eq_getElem hi]; exact h.elem (List.getElem_mem hi)
  · rw [List.getD_eq_getElem?_getD, List.getElem?_eq_none (by omega)]; exact ok_zero
theorem ok_bounded {v : Val} (h : v.rng) : (bounded v).1.ok := by
  unfold bounded
  split
  · exact ok_zero
  · rename_i hw; exact ⟨by show v.wt ≤ 16384; omega, h⟩
theorem arith_rng {op a b : Int} (ha : -9223372036854775808 ≤ a ∧ a < 9223372036854775808) (hb : -9223372036854775808 ≤ b ∧ b < 9223372036854775808) : -9223372036854775808 ≤ (arith op a b).1 ∧ (arith op a b).1 < 9223372036854775808 := by
  unfold arith
  have hf : ∀ x, -9223372036854775808 ≤ (fitI x).1 ∧ (fitI x).1 < 9223372036854775808 := fun x => by unfold fitI; split <;> simp <;> omega
  split
  · exact hf _
  split
  · exact hf _
  split
  · exact hf _
  split
  · simp
  rename_i hb0
  split
  · have := Int.natAbs_tmod a b
    have h2 : (a.tmod b).natAbs ≤ a.natAbs := by rw [this]; exact Nat.mod_le _ _
    have h3 : 0 ≤ a → 0 ≤ a.tmod b := fun h => Int.tmod_nonneg b h
    have h4 : a < 0 → a.tmod b ≤ 0 := fun h => by
      have := Int.tmod_nonneg b (show 0 ≤ -a by omega)
      rw [Int.neg_tmod] at this; omega
    simp only; omega
  split
  · simp
  rename_i hov
  by_cases h1 : b = -1
  · subst h1
    simp only [Int.tdiv_neg, Int.tdiv_one]
    omega
  · have := tdiv_fits ha.1 ha.2 hb0 h1
    exact this
theorem ok_neg {v : Val} (h : v.ok) : v.neg.1.ok := by
  unfold Val.neg
  have := h.num
  split
  · exact ok_zero
  split
  · exact ok_zero
  · exact ok_int (by omega) (by omega)
theorem ok_bin {op : Int} {a b : Val} (ha : a.ok) (hb : b.ok) : (Val.bin op a b).1.ok := by
  unfold Val.bin
  have h3 := arith_rng (op := op) ha.num hb.num
  repeat' split
  all_goals first
    | exact ok_bool _
    | exact ok_zero
    | exact ok_int h3.1 h3.2
    | (refine ok_str ?_; rw [ByteArray.size_append]; omega)
theorem ok_at {v k : Val} (hv : v.ok) : (v.at k).1.ok := by
  unfold Val.at
  repeat' split
  all_goals first
    | exact ok_zero
    | exact ok_getD hv _
theorem rng_mk {k n : Int} {t : ByteArray} {l : List Val} (h : -9223372036854775808 ≤ n ∧ n < 9223372036854775808) (hl : ∀ x ∈ l, x.rng) : (Val.mk k n t l).rng := by
  simp only [Val.rng]; exact ⟨h, (Val.rngL_iff l).2 hl⟩
theorem ok_push {v x : Val} (hv : v.ok) (hx : x.ok) : (v.push x).1.ok := by
  unfold Val.push
  repeat' split
  all_goals first
    | exact ok_zero
    | (refine ok_bounded (rng_mk hv.num fun y hy => ?_); simp at hy; rcases hy with hy | rfl; exact (hv.elem hy).rng; exact hx.rng)
theorem ok_put {v k x : Val} (hv : v.ok) (hk : k.ok) (hx : x.ok) : (v.put k x).1.ok := by
  unfold Val.put
  have hset : ∀ i, ∀ y ∈ v.list.set i x, y.rng := fun i y hy => by
    rcases List.mem_or_eq_of_mem_set hy with h | rfl
    · exact (hv.elem h).rng
    · exact hx.rng
  have hins : ∀ i, ∀ y ∈ v.list.take i ++ (k :: x :: v.list.drop i), y.rng := fun i y hy => by
    simp at hy
    rcases hy with h | rfl | rfl | h
    · exact (hv.elem (List.mem_of_mem_take h)).rng
    · exact hk.rng
    · exact hx.rng
    · exact (hv.elem (List.mem_of_mem_drop h)).rng
  repeat' split
  all_goals first
    | exact ok_zero
    | exact ok_bounded (rng_mk hv.num (hset _))
    | exact ok_bounded (rng_mk hv.num (hins _))
theorem wtL_take_drop (l : List Val) (i j : Nat) (h : i ≤ j) : Val.wtL (l.take i ++ l.drop j) ≤ Val.wtL l := by
  have h1 : Val.wtL l = Val.wtL (l.take i) + Val.wtL (l.drop i) := by rw [← Val.wtL_append, List.take_append_drop]
  have h2 : Val.wtL (l.drop i) = Val.wtL ((l.drop i).take (j - i)) + Val.wtL (l.drop j) := by
    rw [← Val.wtL_append, show l.drop j = (l.drop i).drop (j - i) by rw [List.drop_drop]; congr 1; omega, List.take_append_drop]
  rw [Val.wtL_append]; omega
theorem ok_del {v k : Val} (hv : v.ok) : (v.del k).1.ok := by
  unfold Val.del
  split
  · split
    · refine ⟨?_, rng_mk hv.num fun y hy => ?_⟩
      · have h1 := v.wt_eq
        have h2 := wtL_take_drop v.list (findL k v.list 0).1 ((findL k v.list 0).1 + 2) (by omega)
        have := hv.wt
        simp only [Val.wt]; omega
      · simp at hy
        rcases hy with h | h
        · exact (hv.elem (List.mem_of_mem_take h)).rng
        · exact (hv.elem (List.mem_of_mem_drop h)).rng
    · exact hv
  · exact ok_zero
theorem ok_len {v : Val} (hv : v.ok) : (Val.int v.len.1).ok := by
  have h1 := v.wt_eq
  have h2 := Val.len_wtL v.list
  have := hv.wt
  unfold Val.len
  repeat' split
  all_goals (refine ok_int ?_ ?_ <;> simp only <;> omega)
theorem dd_len : ∀ (k u : Nat), u < 10 ^ (k + 1) → (Lib.decDigits u).length ≤ k + 1
  | 0, u, h => by rw [Lib.decDigits, dif_pos (by omega)]; simp
  | k + 1, u, h => by
    rw [Lib.decDigits]
    split
    · simp
    · have := dd_len k (u / 10) (by rw [Nat.pow_succ] at h; omega)
      simp; omega
theorem itoaB_size {n : Int} (h1 : -9223372036854775808 ≤ n) (h2 : n < 9223372036854775808) : (itoaB n).size ≤ 16383 := by
  show (Lib.itoa n).toArray.size ≤ 16383
  unfold Lib.itoa
  split
  · have := dd_len 19 n.natAbs (by omega)
    simp; omega
  · have := dd_len 19 n.toNat (by omega)
    simp; omega
theorem ok_strv {v : Val} (hv : v.ok) : v.strv.1.ok := by
  unfold Val.strv
  split
  · exact ok_zero
  · exact ok_str (itoaB_size hv.num.1 hv.num.2)
theorem mk1_ok {op a : Int} {vs : List Val} {r : Val × Int} (h : mk1 op a vs = some r) (hv : ∀ v ∈ vs, v.ok) : r.1.ok := by
  match vs, h, hv with
  | [], h, _ => cases h
  | [x], h, hv =>
    have hx := hv x (by simp)
    unfold mk1 at h; simp only at h
    repeat' split at h
    all_goals first
      | (injection h with h; subst h; first | exact ok_neg hx | exact ok_bool _ | exact ok_zero | exact ok_len hx | exact ok_strv hx)
      | cases h
  | [x, y], h, hv =>
    have hx := hv x (by simp)
    have hy := hv y (by simp)
    unfold mk1 at h; simp only at h
    repeat' split at h
    all_goals first
      | (injection h with h; subst h; first | exact ok_bin hx hy | exact ok_bool _ | exact ok_at hx | exact ok_push hx hy | exact ok_del hx)
      | cases h
  | [x, y, z], h, hv =>
    have hx := hv x (by simp)
    have hy := hv y (by simp)
    have hz := hv z (by simp)
    unfold mk1 at h; simp only at h
    repeat' split at h
    all_goals first
      | (injection h with h; subst h; exact ok_put hx hy hz)
      | cases h
  | _ :: _ :: _ :: _ :: _, h, _ => cases h
end Go.Am
end

section
namespace Go.Am
structure Keeps (P : Val → Prop) : Prop where
  ok : ∀ v, P v → v.wt < 2 ^ 40 ∧ -9223372036854775808 ≤ v.num ∧ v.num < 9223372036854775808
  int0 : P (Val.int 0)
  mk1 : ∀ op a vs r, mk1 op a vs = some r → r.2 = 0 → (∀ v ∈ vs, P v) → P r.1
theorem keeps_ok : Keeps Val.ok := ⟨fun v h => ⟨by have := h.wt; omega, h.num⟩, ok_int (by omega) (by omega), fun op a vs r h _ hv => mk1_ok h hv⟩
structure Fr.oks (P : Val → Prop) (S : Fr) : Prop where
  loc : ∀ v ∈ S.loc, P v
  stk : ∀ v ∈ S.stk, P v
  sts : ∀ v ∈ S.sts, P v
def StepR.oks (P : Val → Prop) : StepR → Prop
  | .on S => S.oks P
  | .trap _ _ => True
theorem jump_oks {P : Val → Prop} {S : Fr} (h : S.oks P) (a : Int) : (S.jump a).oks P := by
  unfold Fr.jump
  repeat' split
  all_goals first | trivial | exact ⟨h.loc, h.stk, h.sts⟩
theorem prim_oks {P : Val → Prop} (hP : Keeps P) {m : Mdl} {i : Ins} {S : Fr} {r : StepR} (hp : prim m i S = some r) (h : S.oks P) (hm : ∀ v ∈ m.consts, P v) : r.oks P := by
  have push : ∀ v : Val, P v → ({ S with stk := S.stk ++ [v] } : Fr).oks P := fun v hv => ⟨h.loc, fun x hx => by simp at hx; rcases hx with hx | rfl; exact h.stk x hx; exact hv, h.sts⟩
  have pop : ∀ {s : List Val} {v : Val}, popL S.stk = some (s, v) → P v ∧ ∀ x ∈ s, P x := fun {s v} hq => by
    have e := popL_eq hq
    exact ⟨h.stk v (by rw [e]; simp), fun x hx => h.stk x (by rw [e]; simp [hx])⟩
  have set : ∀ (l : List Val) (k : Nat) (v : Val), (∀ x ∈ l, P x) → P v → ∀ x ∈ l.set k v, P x := fun l k v h1 h2 x hx => by
    rcases List.mem_or_eq_of_mem_set hx with hx | rfl
    · exact h1 x hx
    · exact h2
  unfold prim at hp
  by_cases c0 : i.a < 0
  · rw [if_pos c0] at hp; cases hp
  rw [if_neg c0] at hp
  by_cases c : i.op = 1
  · rw [if_pos c] at hp
    obtain ⟨v, hv, rfl⟩ := Option.map_eq_some_iff.1 hp
    exact push v (hm v (List.mem_of_getElem? hv))
  rw [if_neg c] at hp
  clear c
  by_cases c : i.op = 2
  · rw [if_pos c] at hp
    obtain ⟨v, hv, rfl⟩ := Option.map_eq_some_iff.1 hp
    exact push v (h.loc v (List.mem_of_getElem? hv))
  rw [if_neg c] at hp
  clear c
  by_cases c : i.op = 4
  · rw [if_pos c] at hp
    obtain ⟨v, hv, rfl⟩ := Option.map_eq_some_iff.1 hp
    exact push v (h.sts v (List.mem_of_getElem? hv))
  rw [if_neg c] at hp
  clear c
  by_cases c : i.op = 3
  · rw [if_pos c] at hp
    split at hp
    · obtain ⟨⟨s, v⟩, hv, rfl⟩ := Option.map_eq_some_iff.1 hp
      exact ⟨set _ _ _ h.loc (pop hv).1, (pop hv).2, h.sts⟩
    · cases hp
  rw [if_neg c] at hp
  clear c
  by_cases c : i.op = 5
  · rw [if_pos c] at hp
    split at hp
    · obtain ⟨⟨s, v⟩, hv, rfl⟩ := Option.map_eq_some_iff.1 hp
      exact ⟨h.loc, (pop hv).2, set _ _ _ h.sts (pop hv).1⟩
    · cases hp
  rw [if_neg c] at hp
  clear c
  by_cases c : i.op = 6
  · rw [if_pos c] at hp
    obtain ⟨⟨s, v⟩, hv, rfl⟩ := Option.map_eq_some_iff.1 hp
    exact ⟨h.loc, (pop hv).2, h.sts⟩
  rw [if_neg c] at hp
  clear c
  by_cases c : i.op = 7
  · rw [if_pos c] at hp
    injection hp with hp; subst hp; exact jump_oks h _
  rw [if_neg c] at hp
  clear c
  by_cases c : i.op = 8
  · rw [if_pos c] at hp
    obtain ⟨⟨s, v⟩, hv, rfl⟩ := Option.map_eq_some_iff.1 hp
    have h1 : ({ S with stk := s } : Fr).oks P := ⟨h.loc, (pop hv).2, h.sts⟩
    simp only
    repeat' split
    · exact h1
    · exact jump_oks h1 _
    · trivial
  rw [if_neg c] at hp
  clear c
  by_cases c : i.op = 11
  · rw [if_pos c] at hp
    injection hp with hp; subst hp
    split <;> first | trivial | exact ⟨h.loc, h.stk, h.sts⟩
  rw [if_neg c] at hp
  obtain ⟨⟨s, vs⟩, hsp, hp⟩ := Option.bind_eq_some_iff.1 hp
  obtain ⟨rr, hr, rfl⟩ := Option.map_eq_some_iff.1 hp
  obtain ⟨hs, hlen⟩ := splitN_eq hsp
  have hst : ∀ x ∈ s, P x := fun x hx => h.stk x (by rw [hs]; simp [hx])
  split
  · rename_i h0
    have hok := hP.mk1 _ _ _ _ hr h0 fun v hv => h.stk v (by rw [hs]; simp [hv])
    exact ⟨h.loc, fun x hx => by simp at hx; rcases hx with hx | rfl; exact hst x hx; exact hok, h.sts⟩
  · trivial
end Go.Am
end

section
namespace Go.Am
theorem popL_some {l : List Val} (h : 1 ≤ l.length) : ∃ s v, popL l = some (s, v) ∧ l.length = s.length + 1 := by
  rcases l.eq_nil_or_concat with rfl | ⟨t, w, rfl⟩
  · simp at h
  · exact ⟨t, w, by rw [List.concat_eq_append, popL_append], by simp⟩
theorem splitN_some {l : List Val} {k : Nat} (h : k ≤ l.length) : ∃ s vs, splitN l k = some (s, vs) ∧ vs.length = k ∧ l.length = s.length + k := ⟨l.take (l.length - k), l.drop (l.length - k), by simp [splitN, h], by simp; omega, by simp; omega⟩
theorem mk1_some {op a : Int} {vs : List Val} (h1 : 12 ≤ op) (h2 : op ≤ 21) (h : vs.length = cnt op) : ∃ r, mk1 op a vs = some r := by
  have hop : op = 12 ∨ op = 13 ∨ op = 14 ∨ op = 15 ∨ op = 16 ∨ op = 17 ∨ op = 18 ∨ op = 19 ∨ op = 20 ∨ op = 21 := by omega
  match vs, h with
  | [], h => unfold cnt at h; (repeat' split at h) <;> cases h
  | [x], h => rcases hop with rfl | rfl | rfl | rfl | rfl | rfl | rfl | rfl | rfl | rfl <;> simp [cnt] at h <;> simp [mk1]
  | [x, y], h => rcases hop with rfl | rfl | rfl | rfl | rfl | rfl | rfl | rfl | rfl | rfl <;> simp [cnt] at h <;> simp [mk1]
  | [x, y, z], h => rcases hop with rfl | rfl | rfl | rfl | rfl | rfl | rfl | rfl | rfl | rfl <;> simp [cnt] at h <;> simp [mk1]
  | _ :: _ :: _ :: _ :: _, h => unfold cnt at h; (repeat' split at h) <;> simp at h
theorem bounded_err (v : Val) : (bounded v).2 ≠ 54 := by unfold bounded; split <;> simp
theorem arith_err (op a b : Int) : (arith op a b).2 ≠ 54 := by
  have hf : ∀ x, (fitI x).2 ≠ 54 := fun x => by unfold fitI; split <;> simp
  unfold arith
  repeat' split
  all_goals first | exact hf _ | simp
theorem mk1_err {op a : Int} {vs : List Val} {r : Val × Int} (h : mk1 op a vs = some r) : r.2 ≠ 54 := by
  match vs, h with
  | [], h => cases h
  | [x], h =>
    unfold mk1 at h; simp only at h
    repeat' split at h
    all_goals first
      | cases h; done
      | (injection h with h; subst h; first | (unfold Val.neg; (repeat' split) <;> simp; done) | (unfold Val.len; (repeat' split) <;> simp; done) | (unfold Val.strv; (repeat' split) <;> simp; done) | (simp; done))
  | [x, y], h =>
    unfold mk1 at h; simp only at h
    repeat' split at h
    all_goals first
      | cases h; done
      | (injection h with h; subst h; first | (unfold Val.bin; (repeat' split) <;> first | exact arith_err _ _ _ | (simp; done)) | (unfold Val.has; (repeat' split) <;> simp; done) | (unfold Val.at; (repeat' split) <;> simp; done) | (unfold Val.push; (repeat' split) <;> first | exact bounded_err _ | (simp; done)) | (unfold Val.del; (repeat' split) <;> simp; done))
  | [x, y, z], h =>
    unfold mk1 at h; simp only at h
    split at h
    · injection h with h; subst h
      unfold Val.put
      (repeat' split) <;> first | exact bounded_err _ | (simp; done)
    · cases h
  | _ :: _ :: _ :: _ :: _, h => cases h
def StepOk (S : Fr) (nx : List Int) (p out : Int) : StepR → Prop
  | .on S' => S'.loc.length = S.loc.length ∧ S'.sts.length = S.sts.length ∧ 0 ≤ S'.fuel ∧ S'.fuel ≤ S.fuel ∧ S'.at_ ∈ nx ∧ (S'.at_ ≤ p → S'.fuel < S.fuel) ∧ (S'.stk.length : Int) = out
  | .trap e S' => e ≠ 0 ∧ 0 ≤ S'.fuel ∧ S'.fuel ≤ S.fuel ∧ (e = 54 → S'.fuel = 0)
theorem jump_ok {S : Fr} {nx : List Int} {p a out : Int} (hat : S.at_ = p + 1) (ha : a ∈ nx) (h0 : 0 ≤ S.fuel) (ho : (S.stk.length : Int) = out) : StepOk S nx p out (S.jump a) := by
  unfold Fr.jump
  split
  · split
    · exact ⟨by simp, by simp, h0, fun _ => rfl⟩
    · exact ⟨rfl, rfl, by simp only; omega, by simp only; omega, ha, fun _ => by simp only; omega, ho⟩
  · exact ⟨rfl, rfl, h0, Int.le_refl _, ha, fun h => by simp only at h; omega, ho⟩
theorem prim_ok {m : Mdl} {st : Int} {n : Nat} {f : Fnc} {i : Ins} {S : Fr} {p : Int} (hi : m.insOk st n f i = true) (h9 : i.op ≠ 9) (h10 : i.op ≠ 10) (hat : S.at_ = p + 1) (h0 : 0 ≤ S.fuel)
    (hl : (S.loc.length : Int) = f.locals) (hs : (S.sts.length : Int) = st) (hst : m.pops i ≤ S.stk.length) :
    ∃ r, prim m i S = some r ∧ StepOk S (i.nexts p) p (S.stk.length - m.pops i + i.pushes) r := by
  obtain ⟨op, a⟩ := i
  simp only [Mdl.insOk, Bool.and_eq_true, decide_eq_true_eq] at hi
  obtain ⟨⟨⟨o1, o2⟩, a1⟩, a2⟩ := hi
  have ha0 : 0 ≤ a := by unfold Mdl.most at a1; (repeat' split at a1) <;> simp at a1 <;> omega
  unfold prim
  simp only at *
  rw [if_neg (by omega)]
  have plain : ∀ S' : Fr, S'.at_ = S.at_ → S'.fuel = S.fuel → S'.loc.length = S.loc.length → S'.sts.length = S.sts.length → (S'.stk.length : Int) = S.stk.length - m.pops ⟨op, a⟩ + Ins.pushes ⟨op, a⟩ → op ≠ 7 →
      StepOk S (Ins.nexts ⟨op, a⟩ p) p (S.stk.length - m.pops ⟨op, a⟩ + Ins.pushes ⟨op, a⟩) (.on S') := fun S' e1 e2 e3 e4 e5 e7 => by
    refine ⟨e3, e4, by omega, by omega, ?_, fun h => by omega, e5⟩
    unfold Ins.nexts
    rw [if_neg h10, if_neg e7]
    split <;> simp [e1, hat]
  by_cases c : op = 1
  · subst c
    simp [Mdl.most] at a2
    rw [if_pos rfl, List.getElem?_eq_getElem (by omega)]
    exact ⟨_, rfl, plain _ rfl rfl rfl rfl (by simp [Mdl.pops, Ins.pushes]) (by omega)⟩
  rw [if_neg c]
  by_cases c : op = 2
  · subst c
    simp [Mdl.most] at a2
    rw [if_pos rfl, List.getElem?_eq_getElem (by omega)]
    exact ⟨_, rfl, plain _ rfl rfl rfl rfl (by simp [Mdl.pops, Ins.pushes]) (by omega)⟩
  rw [if_neg c]
  by_cases c : op = 4
  · subst c
    simp [Mdl.most] at a2
    rw [if_pos rfl, List.getElem?_eq_getElem (by omega)]
    exact ⟨_, rfl, plain _ rfl rfl rfl rfl (by simp [Mdl.pops, Ins.pushes]) (by omega)⟩
  rw [if_neg c]
  by_cases c : op = 3
  · subst c
    simp [Mdl.most] at a2
    have hp : m.pops ⟨3, a⟩ = 1 := by simp [Mdl.pops]
    obtain ⟨s, v, e1, e2⟩ := popL_some (l := S.stk) (by omega)
    rw [if_pos rfl, if_pos (by omega), e1]
    exact ⟨_, rfl, plain _ rfl rfl (by simp) rfl (by simp [hp, Ins.pushes]; omega) (by omega)⟩
  rw [if_neg c]
  by_cases c : op = 5
  · subst c
    simp [Mdl.most] at a2
    have hp : m.pops ⟨5, a⟩ = 1 := by simp [Mdl.pops]
    obtain ⟨s, v, e1, e2⟩ := popL_some (l := S.stk) (by omega)
    rw [if_pos rfl, if_pos (by omega), e1]
    exact ⟨_, rfl, plain _ rfl rfl rfl (by simp) (by simp [hp, Ins.pushes]; omega) (by omega)⟩
  rw [if_neg c]
  by_cases c : op = 6
  · subst c
    have hp : m.pops ⟨6, a⟩ = 1 := by simp [Mdl.pops]
    obtain ⟨s, v, e1, e2⟩ := popL_some (l := S.stk) (by omega)
    rw [if_pos rfl, e1]
    exact ⟨_, rfl, plain _ rfl rfl rfl rfl (by simp [hp, Ins.pushes]; omega) (by omega)⟩
  rw [if_neg c]
  by_cases c : op = 7
  · subst c
    rw [if_pos rfl]
    exact ⟨_, rfl, jump_ok hat (by simp [Ins.nexts]) h0 (by simp [Mdl.pops, Ins.pushes])⟩
  rw [if_neg c]
  by_cases c : op = 8
  · subst c
    have hp : m.pops ⟨8, a⟩ = 1 := by simp [Mdl.pops]
    obtain ⟨s, v, e1, e2⟩ := popL_some (l := S.stk) (by omega)
    rw [if_pos rfl, e1]
    refine ⟨_, rfl, ?_⟩
    simp only
    split
    · split
      · exact plain _ rfl rfl rfl rfl (by simp [hp, Ins.pushes]; omega) (by omega)
      · exact jump_ok (S := { S with stk := s }) hat (by simp [Ins.nexts]) h0 (by simp [hp, Ins.pushes]; omega)
    · exact ⟨by simp, h0, Int.le_refl _, by simp⟩
  rw [if_neg c]
  by_cases c : op = 11
  · subst c
    rw [if_pos rfl]
    refine ⟨_, rfl, ?_⟩
    split
    · exact ⟨by simp, by simp, h0, fun _ => rfl⟩
    · exact ⟨rfl, rfl, by simp only; omega, by simp only; omega, by simp [Ins.nexts, hat], fun h => by simp only at h; omega, by simp [Mdl.pops, Ins.pushes]⟩
  rw [if_neg c]
  have hc : m.pops ⟨op, a⟩ = cnt op := by
    unfold Mdl.pops cnt
    simp only
    (repeat' split) <;> simp <;> omega
  have hpu : Ins.pushes ⟨op, a⟩ = 1 := by
    unfold Ins.pushes
    simp only
    split <;> omega
  obtain ⟨s, vs, e1, e2, e3⟩ := splitN_some (l := S.stk) (k := cnt op) (by omega)
  obtain ⟨r, hr⟩ := mk1_some (a := a) (by omega) o2 e2
  rw [e1]
  simp only [Option.bind_some, hr, Option.map_some]
  refine ⟨_, rfl, ?_⟩
  split
  · exact plain _ rfl rfl rfl rfl (by simp [hc, hpu]; omega) (by omega)
  · exact ⟨by assumption, h0, Int.le_refl _, fun h => absurd h (mk1_err hr)⟩
end Go.Am
end

section
namespace Go.Am
theorem run_mono {m : Mdl} : ∀ (g : Nat) {f : Fnc} {S : Fr} {out : Out}, run m g f S = some out → run m (g + 1) f S = some out
  | 0, f, S, out, h => by cases h
  | g + 1, f, S, out, h => by
    rw [run] at h
    rw [run]
    by_cases hfit : S.fit
    case neg => rw [if_neg hfit] at h; cases h
    rw [if_pos hfit] at h ⊢
    cases hc : f.code[S.at_.toNat]? with
    | none => rw [hc] at h; cases h
    | some i =>
      rw [hc] at h
      simp only [Option.bind_some] at h ⊢
      by_cases h10 : i.op = 10
      · rw [if_pos h10] at h ⊢; exact h
      rw [if_neg h10] at h ⊢
      by_cases h9 : i.op = 9
      · rw [if_pos h9] at h ⊢
        by_cases ha : i.a < 0
        · rw [if_pos ha] at h; cases h
        rw [if_neg ha] at h ⊢
        by_cases hfu : S.fuel < 1
        · rw [if_pos hfu] at h ⊢; exact h
        rw [if_neg hfu] at h ⊢
        cases hq : m.funcs[i.a.toNat]? with
        | none => rw [hq] at h; cases h
        | some h' =>
          rw [hq] at h
          simp only [Option.bind_some] at h ⊢
          by_cases hp : h'.params < 0
          · rw [if_pos hp] at h; cases h
          rw [if_neg hp] at h ⊢
          cases hs : splitN S.stk h'.params.toNat with
          | none => rw [hs] at h; cases h
          | some p =>
            rw [hs] at h
            simp only [Option.bind_some] at h ⊢
            cases hr : run m g h' (h'.start p.2 S.sts (S.fuel - 1)) with
            | none => rw [hr] at h; cases h
            | some o =>
              rw [hr] at h
              rw [run_mono g hr]
              cases o with
              | trap e sts fuel => exact h
              | val v sts fuel => exact run_mono g h
      · rw [if_neg h9] at h ⊢
        cases hp : prim m i { S with at_ := S.at_ + 1 } with
        | none => rw [hp] at h; cases h
        | some r =>
          rw [hp] at h
          cases r with
          | trap e S' => exact h
          | on S' => exact run_mono g h
theorem run_le {m : Mdl} {g g' : Nat} {f : Fnc} {S : Fr} {out : Out} (h : run m g f S = some out) (hg : g ≤ g') : run m g' f S = some out := by
  obtain ⟨k, rfl⟩ := Nat.exists_eq_add_of_le hg
  clear hg
  induction k with
  | zero => exact h
  | succ k ih => exact run_mono _ ih
structure FrI (P : Val → Prop) (f : Fnc) (G : Nat → Int) (st : Int) (S : Fr) : Prop where
  a0 : 0 ≤ S.at_
  al : S.at_.toNat < f.code.length
  hh : (S.stk.length : Int) = G S.at_.toNat
  hb : S.stk.length ≤ 256
  loc : (S.loc.length : Int) = f.locals
  sts : (S.sts.length : Int) = st
  f0 : 0 ≤ S.fuel
  f1 : S.fuel ≤ 4096
  ok : S.oks P
def OutOk (P : Val → Prop) (st fuel : Int) : Out → Prop
  | .val v sts fu => P v ∧ (∀ x ∈ sts, P x) ∧ (sts.length : Int) = st ∧ 0 ≤ fu ∧ fu ≤ fuel
  | .trap e sts fu => e ≠ 0 ∧ 0 ≤ fu ∧ fu ≤ fuel ∧ (e = 54 → fu = 0)
theorem OutOk.le {P : Val → Prop} {st a b : Int} {o : Out} (h : OutOk P st a o) (hab : a ≤ b) : OutOk P st b o := by
  cases o with
  | val v sts fu => exact ⟨h.1, h.2.1, h.2.2.1, h.2.2.2.1, Int.le_trans h.2.2.2.2 hab⟩
  | trap e sts fu => exact ⟨h.1, h.2.1, Int.le_trans h.2.2.1 hab, h.2.2.2⟩
theorem nexts_nonneg {m : Mdl} {st : Int} {n : Nat} {f : Fnc} {i : Ins} {p q : Int} (hi : m.insOk st n f i = true) (hp : 0 ≤ p) (hq : q ∈ i.nexts p) : 0 ≤ q := by
  simp only [Mdl.insOk, Bool.and_eq_true, decide_eq_true_eq] at hi
  obtain ⟨⟨⟨o1, o2⟩, a1⟩, a2⟩ := hi
  have ha0 : 0 ≤ i.a := by unfold Mdl.most at a1; (repeat' split at a1) <;> simp at a1 <;> omega
  unfold Ins.nexts at hq
  (repeat' split at hq) <;> simp at hq <;> omega
theorem run_total {m : Mdl} {st : Int} (hv : m.vOk st) {P : Val → Prop} (hP : Keeps P) (hc : ∀ v ∈ m.consts, P v) : ∀ (F n : Nat) (hn : n < m.funcs.length) (G : Nat → Int), (m.gr m.funcs[n]).good G →
    ∀ (d : Nat) (S : Fr), FrI P m.funcs[n] G st S → S.fuel.toNat ≤ F → m.funcs[n].code.length - S.at_.toNat ≤ d → ∃ g out, run m g m.funcs[n] S = some out ∧ OutOk P st S.fuel out := by
  intro F
  induction F using Nat.strongRecOn with
  | _ F IH =>
  intro n hn G hG d
  induction d with
  | zero => intro S hS _ hd; have := hS.al; omega
  | succ d IHd =>
  intro S hS hF hd
  have hfn := hv.fn n hn
  have hal := hS.al
  have ha0 := hS.a0
  have hins := hfn.ins _ (List.getElem_mem hal)
  have hgl : (m.gr m.funcs[n]).len = m.funcs[n].code.length := rfl
  have hok := hG.2 S.at_.toNat (by rw [hgl]; exact hal) (by rw [← hS.hh]; omega)
  have hgp : (m.gr m.funcs[n]).pops S.at_.toNat = m.pops m.funcs[n].code[S.at_.toNat] := by simp [Mdl.gr, hal]
  have hgu : (m.gr m.funcs[n]).pushes S.at_.toNat = m.funcs[n].code[S.at_.toNat].pushes := by simp [Mdl.gr, hal]
  have hgn : (m.gr m.funcs[n]).nexts S.at_.toNat = m.funcs[n].code[S.at_.toNat].nexts S.at_ := by simp [Mdl.gr, hal]; rw [Int.max_eq_left ha0]
  have hcap : (m.gr m.funcs[n]).cap = m.funcs[n].stack := rfl
  have hst1 := hfn.bnd.s1
  obtain ⟨en, fi, ways⟩ := hok
  rw [hgn] at ways
  unfold Gr.out at fi ways
  rw [hgp, hgu, hcap] at fi
  rw [hgp, hgu] at ways
  rw [hgp] at en
  rw [← hS.hh] at en fi ways
  rw [hgl] at ways
  have hcode : m.funcs[n].code[S.at_.toNat]? = some m.funcs[n].code[S.at_.toNat] := List.getElem?_eq_getElem hal
  generalize hi : m.funcs[n].code[S.at_.toNat] = i at *
  have hfit : S.fit := ⟨ha0, by have := hS.hb; omega, hS.f0, by have := hS.f1; omega, fun v hv => hP.ok v (hS.ok.stk v hv)⟩
  have hf0 := hS.f0
  have hf1 := hS.f1
  by_cases h10 : i.op = 10
  · have hp : m.pops i = 1 := by simp [Mdl.pops, h10]
    obtain ⟨s, v, e1, e2⟩ := popL_some (l := S.stk) (by omega)
    refine ⟨1, .val v S.sts S.fuel, ?_, hS.ok.stk v (by rw [popL_eq e1]; simp), hS.ok.sts, hS.sts, hf0, Int.le_refl _⟩
    rw [run, if_pos hfit, hcode]
    simp only [Option.bind_some]
    rw [if_pos h10, e1]; rfl
  by_cases h9 : i.op = 9
  · have hpu : i.pushes = 1 := by simp [Ins.pushes, h9]
    have hnx : i.nexts S.at_ = [S.at_ + 1] := by simp [Ins.nexts, h9]
    have hin := hins
    simp only [Mdl.insOk, Bool.and_eq_true, decide_eq_true_eq] at hin
    obtain ⟨⟨⟨o1, o2⟩, a1⟩, a2⟩ := hin
    simp [Mdl.most, h9] at a1 a2
    have hal2 : i.a.toNat < m.funcs.length := by omega
    have hp : m.pops i = m.funcs[i.a.toNat].params := by simp [Mdl.pops, h9, hal2]
    have hfn2 := hv.fn _ hal2
    have hp0 := hfn2.bnd.p0
    have hpl := hfn2.bnd.l0
    have hq : m.funcs[i.a.toNat]? = some m.funcs[i.a.toNat] := List.getElem?_eq_getElem hal2
    by_cases hfu : S.fuel < 1
    · refine ⟨1, .trap 54 S.sts 0, ?_, by simp, by simp, hf0, fun _ => rfl⟩
      rw [run, if_pos hfit, hcode]
      simp only [Option.bind_some]
      rw [if_neg h10, if_pos h9, if_neg (by omega), if_pos hfu]
    obtain ⟨s, vs, e1, e2, e3⟩ := splitN_some (l := S.stk) (k := m.funcs[i.a.toNat].params.toNat) (by omega)
    have hs := (splitN_eq e1).1
    obtain ⟨G', hG'⟩ : ∃ G', (m.gr m.funcs[i.a.toNat]).good G' := by have h := hfn2.hgt; simp only [Gr.hB, decide_eq_true_eq] at h; exact h
    have hc0 := hfn2.bnd.c0
    have hloc : ((vs ++ List.replicate (m.funcs[i.a.toNat].locals.toNat - vs.length) (Val.int 0)).length : Int) = m.funcs[i.a.toNat].locals := by simp; omega
    obtain ⟨g1, o1, hr1, hk1⟩ := IH (S.fuel - 1).toNat (by omega) _ hal2 G' hG' m.funcs[i.a.toNat].code.length (m.funcs[i.a.toNat].start vs S.sts (S.fuel - 1))
      ⟨Int.le_refl _, by simp only [Fnc.start]; simp; omega, by simp only [Fnc.start]; simp; exact hG'.1.symm, by simp [Fnc.start], hloc, hS.sts, by simp only [Fnc.start]; omega, by simp only [Fnc.start]; omega,
        ⟨fun v hv => by simp only [Fnc.start] at hv; simp at hv; rcases hv with hv | ⟨_, rfl⟩; exact hS.ok.stk v (by rw [hs]; simp [hv]); exact hP.int0, fun v hv => by simp [Fnc.start] at hv, hS.ok.sts⟩⟩ (Nat.le_refl _) (by omega)
    have hk1f : OutOk P st (S.fuel - 1) o1 := hk1
    cases o1 with
    | trap e sts fu =>
      refine ⟨g1 + 1, .trap e sts fu, ?_, hk1f.le (by omega)⟩
      rw [run, if_pos hfit, hcode]
      simp only [Option.bind_some]
      rw [if_neg h10, if_pos h9, if_neg (by omega), if_neg hfu, hq]
      simp only [Option.bind_some]
      rw [if_neg (by omega), e1]
      simp only [Option.bind_some]
      rw [hr1]
    | val v sts fu =>
      obtain ⟨q1, q2, q3, q4, q5⟩ := hk1f
      obtain ⟨w1, w2⟩ := ways (S.at_ + 1) (by rw [hnx]; simp)
      have hst2 : ∀ x ∈ s, P x := fun x hx => hS.ok.stk x (by rw [hs]; simp [hx])
      obtain ⟨g2, o2, hr2, hk2⟩ := IH fu.toNat (by omega) n hn G hG m.funcs[n].code.length { S with stk := s ++ [v], at_ := S.at_ + 1, sts := sts, fuel := fu }
        ⟨by simp only; omega, w1, by simp only; rw [w2]; simp; omega, by simp; omega, hS.loc, q3, q4, by simp only; omega,
          ⟨hS.ok.loc, fun x hx => by simp at hx; rcases hx with hx | rfl; exact hst2 x hx; exact q1, q2⟩⟩ (Nat.le_refl _) (by omega)
      refine ⟨max g1 g2 + 1, o2, ?_, hk2.le (by simp only; omega)⟩
      rw [run, if_pos hfit, hcode]
      simp only [Option.bind_some]
      rw [if_neg h10, if_pos h9, if_neg (by omega), if_neg hfu, hq]
      simp only [Option.bind_some]
      rw [if_neg (by omega), e1]
      simp only [Option.bind_some]
      rw [run_le hr1 (Nat.le_max_left _ _)]
      exact run_le hr2 (Nat.le_max_right _ _)
  · obtain ⟨r, hpr, hso⟩ := prim_ok (S := { S with at_ := S.at_ + 1 }) (p := S.at_) hins h9 h10 rfl hf0 hS.loc hS.sts (by simp only; omega)
    have hoks := prim_oks hP hpr ⟨hS.ok.loc, hS.ok.stk, hS.ok.sts⟩ hc
    cases r with
    | trap e S' =>
      refine ⟨1, .trap e S'.sts S'.fuel, ?_, hso⟩
      rw [run, if_pos hfit, hcode]
      simp only [Option.bind_some]
      rw [if_neg h10, if_neg h9, hpr]
    | on S' =>
      obtain ⟨s1, s2, s3, s4, s5, s6, s7⟩ := hso
      simp only at s1 s2 s4 s6 s7
      obtain ⟨w1, w2⟩ := ways S'.at_ s5
      have hn0 := nexts_nonneg hins ha0 s5
      have hI : FrI P m.funcs[n] G st S' := ⟨hn0, w1, by rw [w2]; exact s7, by omega, by rw [s1]; exact hS.loc, by rw [s2]; exact hS.sts, s3, by omega, hoks⟩
      have hend : ∃ g out, run m g m.funcs[n] S' = some out ∧ OutOk P st S'.fuel out := by
        by_cases hle : S'.at_ ≤ S.at_
        · have := s6 hle
          exact IH S'.fuel.toNat (by omega) n hn G hG m.funcs[n].code.length S' hI (Nat.le_refl _) (by omega)
        · exact IHd S' hI (by omega) (by omega)
      obtain ⟨g, out, hr, ho⟩ := hend
      refine ⟨g + 1, out, ?_, ho.le s4⟩
      rw [run, if_pos hfit, hcode]
      simp only [Option.bind_some]
      rw [if_neg h10, if_neg h9, hpr]
      exact hr
end Go.Am
end

section
namespace Go.Am
def Fr.more (S : Fr) (k : Int) : Fr := { S with fuel := S.fuel + k }
def StepR.more (k : Int) : StepR → StepR
  | .on S => .on (S.more k)
  | .trap e S => .trap e (S.more k)
def StepR.fuel : StepR → Int
  | .on S => S.fuel
  | .trap _ S => S.fuel
def StepR.short : StepR → Prop
  | .on _ => False
  | .trap e _ => e = 54
def Out.more (k : Int) : Out → Out
  | .val v sts fu => .val v sts (fu + k)
  | .trap e sts fu => .trap e sts (fu + k)
def Out.fuel : Out → Int
  | .val _ _ fu => fu
  | .trap _ _ fu => fu
def Out.short : Out → Prop
  | .val _ _ _ => False
  | .trap e _ _ => e = 54
end Go.Am
end

section
namespace Go.Am
set_option maxRecDepth 100000
attribute [local irreducible] vc vcIs vcI vcOp vcD vcDp vcDR vcT vcAR stepD stepDp panD neG ne pv J callS callN loopS lookK evK evsK nthK objK boxK rowK boolK intK strK aggK fnK ifcK cellsK cellsLK ldK ldaK iaK srcK stK appK appD isnlD pvK callJ callJD callA
mutual
def Val.lim : Val → Prop
  | .mk _ n t l => (-9223372036854775808 ≤ n ∧ n < 9223372036854775808) ∧ t.size < 2 ^ 40 ∧ l.length < 2 ^ 40 ∧ Val.limL l
def Val.limL : List Val → Prop
  | [] => True
  | v :: vs => v.lim ∧ Val.limL vs
end
theorem Val.lim_eq (v : Val) : v.lim ↔ (-9223372036854775808 ≤ v.num ∧ v.num < 9223372036854775808) ∧ v.text.size < 2 ^ 40 ∧ v.list.length < 2 ^ 40 ∧ Val.limL v.list := by
  obtain ⟨k, n, t, l⟩ := v; simp [Val.lim, Val.num, Val.list, Val.text]
theorem Val.limL_iff : ∀ (l : List Val), Val.limL l ↔ ∀ x ∈ l, x.lim
  | [] => by simp [Val.limL]
  | v :: l => by simp [Val.limL, Val.limL_iff l]
theorem Val.lim.rng {v : Val} (h : v.lim) : v.rng := by
  induction v using Val.induct with
  | h v ih =>
  obtain ⟨h1, h2, h3, h4⟩ := v.lim_eq.1 h
  exact v.rng_eq.2 ⟨h1, (Val.rngL_iff _).2 fun x hx => ih x hx ((Val.limL_iff _).1 h4 x hx)⟩
mutual
def Val.cnt : Val → Int → Bool × Int
  | .mk _ _ t l, n => if n + (1 + t.size) > 16384 then (true, n + (1 + t.size)) else Val.cntL l (n + (1 + t.size))
def Val.cntL : List Val → Int → Bool × Int
  | [], n => (false, n)
  | v :: vs, n => if (v.cnt n).1 then (true, (v.cnt n).2) else Val.cntL vs (v.cnt n).2
end
theorem Val.cnt_eq (v : Val) (n : Int) : v.cnt n = if n + (1 + v.text.size) > 16384 then (true, n + (1 + v.text.size)) else Val.cntL v.list (n + (1 + v.text.size)) := by
  obtain ⟨k, m, t, l⟩ := v; simp [Val.cnt, Val.list, Val.text]
theorem cnt_wt (v : Val) : ∀ n, 0 ≤ n → n ≤ 16384 → ((v.cnt n).1 = false → (v.cnt n).2 = n + v.wt ∧ n + v.wt ≤ 16384) := by
  induction v using Val.induct with
  | h v ih =>
  intro n h0 h1 h
  have hw := v.wt_eq
  rw [Val.cnt_eq] at h ⊢
  split at h
  · cases h
  rename_i hn
  rw [if_neg hn]
  have key : ∀ (l : List Val) (k : Int), (∀ x ∈ l, x ∈ v.list) → 0 ≤ k → k ≤ 16384 → (Val.cntL l k).1 = false → (Val.cntL l k).2 = k + Val.wtL l ∧ k + Val.wtL l ≤ 16384 := by
    intro l
    induction l with
    | nil => intro k _ _ hk _; simp [Val.cntL, Val.wtL]; exact hk
    | cons x l ihl =>
      intro k hx hk0 hk hc
      rw [Val.cntL] at hc ⊢
      split at hc
      · cases hc
      rename_i hxx
      rw [if_neg hxx]
      have hxf : (x.cnt k).1 = false := by simpa using hxx
      obtain ⟨q1, q2⟩ := ih x (hx x (by simp)) k hk0 hk hxf
      rw [q1] at hc ⊢
      obtain ⟨r1, r2⟩ := ihl (k + x.wt) (fun y hy => hx y (by simp [hy])) (by omega) q2 hc
      simp only [Val.wtL]
      omega
  have := key v.list (n + (1 + v.text.size)) (fun x hx => hx) (by omega) (by omega) h
  omega
def CntI (l : List Val) (n1 : Int) (x : Nat × Int) : Prop := x.1 ≤ l.length ∧ 0 ≤ x.2 ∧ x.2 ≤ 16384 ∧ Val.cntL l n1 = Val.cntL (l.drop x.1) x.2
theorem CntI.start {l : List Val} {n : Int} (h0 : 0 ≤ n) (h1 : n ≤ 16384) : CntI l n (0, n) := ⟨Nat.zero_le _, h0, h1, rfl⟩
theorem CntI.hit {l : List Val} {n1 : Int} {i : Nat} {k : Int} (h : CntI l n1 (i, k)) (hi : i < l.length) (hc : (l[i].cnt k).1 = true) : Val.cntL l n1 = (true, (l[i].cnt k).2) := by
  rw [h.2.2.2, List.drop_eq_getElem_cons hi, Val.cntL, if_pos hc]
theorem CntI.next {l : List Val} {n1 : Int} {i : Nat} {k : Int} (h : CntI l n1 (i, k)) (hi : i < l.length) (hc : (l[i].cnt k).1 = false) : CntI l n1 (i + 1, (l[i].cnt k).2) := by
  obtain ⟨q1, q2⟩ := cnt_wt l[i] k h.2.1 h.2.2.1 hc
  have hk : 0 ≤ k := h.2.1
  refine ⟨hi, by simp only; omega, by simp only; omega, ?_⟩
  rw [h.2.2.2, List.drop_eq_getElem_cons hi, Val.cntL, if_neg (by simp [hc])]
theorem CntI.end {l : List Val} {n1 : Int} {i : Nat} {k : Int} (h : CntI l n1 (i, k)) (hi : l.length ≤ i) : Val.cntL l n1 = (false, k) := by
  rw [h.2.2.2, List.drop_eq_nil_of_le hi]; rfl
theorem count_spec (v : Val) : v.lim → ∀ n : Int, 0 ≤ n → n ≤ 16384 → J prog f_quernlaw15_count [v.V, .bp (.e 0) 0] [.box [vI n]] (· = .ret (vB (v.cnt n).1) [.box [vI (v.cnt n).2]]) := by
  induction v using Val.induct with
  | h v ih =>
  intro hlim n h0 h1
  obtain ⟨l1, l2, l3, l4⟩ := v.lim_eq.1 hlim
  have hce := v.cnt_eq n
  generalize v.cnt n = r at *
  refine J_genW fn_quernlaw15_count (by simp) ?_
  simp (config := { contextual := true, maxSteps := 2000000 }) (disch := omega) [-Int.not_lt, -Int.not_le, -Nat.not_lt, -Nat.not_le, elemK_get, wrapI, leT, leF, ltT, ltF, leTn, leFn, ltTn, ltFn, cd_quernlaw15_count, hpE]
  refine ⟨fun h => ?_, fun h => ?_⟩
  · rw [if_pos (by omega)] at hce
    subst hce
    refine endR _ _ (Wk.refl _ _) [] (by simp) ?_
    simp (config := { contextual := true, maxSteps := 2000000 }) (disch := omega) [-Int.not_lt, -Int.not_le, -Nat.not_lt, -Nat.not_le, elemK_get, wrapI, leT, leF, ltT, ltF, leTn, leFn, ltTn, ltFn]
  · rw [if_neg (by omega)] at hce
    refine loopS_while (fun x : Nat × Int => v.list.length - x.1) (fun x => [(23, vI x.1), (22, vI v.list.length), (21, valsV v.list), (1, .bp (.e 0) 0)]) (fun x => [(.e 0, .box [vI x.2])])
      (CntI v.list (n + (1 + v.text.size))) (0, n + (1 + v.text.size)) (.start (by omega) (by omega)) (Wk.subs (by simp) (by simp)) ?_
    rintro ⟨i, k⟩ hI
    have hi : i ≤ v.list.length := hI.1
    have hk0 : 0 ≤ k := hI.2.1
    have hk1 : k ≤ 16384 := hI.2.2.1
    simp (config := { contextual := true, maxSteps := 2000000 }) (disch := omega) [-Int.not_lt, -Int.not_le, -Nat.not_lt, -Nat.not_le, elemK_get, wrapI, leT, leF, ltT, ltF, leTn, leFn, ltTn, ltFn]
    refine ⟨fun hlt => ?_, fun hge => ?_⟩
    · refine callS_obj [.e 0] rfl rfl (by simp) ?_
      simp
      have hpO := ih v.list[i] (List.getElem_mem hlt) ((Val.limL_iff _).1 l4 _ (List.getElem_mem hlt)) k hk0 hk1
      try simp [VmS.obs, VmS.obs', machObs] at hpO
      refine callJ_ret 29 hpO (by simp) ?_
      clear hpO
      simp (config := { contextual := true, maxSteps := 2000000 }) (disch := omega) [-Int.not_lt, -Int.not_le, -Nat.not_lt, -Nat.not_le, elemK_get, wrapI, leT, leF, ltT, ltF, leTn, leFn, ltTn, ltFn]
      refine ⟨fun hc => ?_, fun hc => ?_⟩
      · rw [hI.hit hlt hc] at hce
        subst hce
        refine endR _ _ (Wk.refl _ _) [] (by simp) ?_
        simp (config := { contextual := true, maxSteps := 2000000 }) (disch := omega) [-Int.not_lt, -Int.not_le, -Nat.not_lt, -Nat.not_le, elemK_get, wrapI, leT, leF, ltT, ltF, leTn, leFn, ltTn, ltFn]
      · exact .of (i + 1, (v.list[i].cnt k).2) (hI.next hlt hc) (by simp only; omega) (Wk.subs (by simp) (by simp))
    · rw [hI.end (by omega)] at hce
      subst hce
      refine endR _ _ (Wk.refl _ _) [] (by simp) ?_
      simp (config := { contextual := true, maxSteps := 2000000 }) (disch := omega) [-Int.not_lt, -Int.not_le, -Nat.not_lt, -Nat.not_le, elemK_get, wrapI, leT, leF, ltT, ltF, leTn, leFn, ltTn, ltFn]
end Go.Am
end

section
namespace Go.Am
set_option maxRecDepth 100000
attribute [local irreducible] vc vcIs vcI vcOp vcD vcDp vcDR vcT vcAR stepD stepDp panD neG ne pv J callS callN loopS lookK evK evsK nthK objK boxK rowK boolK intK strK aggK fnK ifcK cellsK cellsLK ldK ldaK iaK srcK stK appK appD isnlD pvK callJ callJD callA
def cntF : List Fnc → Int → Bool × Int
  | [], n => (false, n)
  | f :: fs, n => if n + (1 + f.code.length) > 1024 then (true, n) else cntF fs (n + (1 + f.code.length))
def cntLL : List (List Val) → Int → Bool
  | [], n => false
  | l :: ls, n => if (Val.cntL l n).1 then true else cntLL ls (Val.cntL l n).2
def Mdl.large (m : Mdl) (a b : List Val) : Bool := if (cntF m.funcs 0).1 then true else cntLL [m.consts, a, b] (cntF m.funcs 0).2
def FuI (l : List Fnc) (x : Nat × Int) : Prop := x.1 ≤ l.length ∧ 0 ≤ x.2 ∧ x.2 ≤ 1024 ∧ cntF l 0 = cntF (l.drop x.1) x.2
theorem FuI.hit {l : List Fnc} {i : Nat} {k : Int} (h : FuI l (i, k)) (hi : i < l.length) (hc : k + (1 + l[i].code.length) > 1024) : (cntF l 0).1 = true := by
  rw [h.2.2.2, List.drop_eq_getElem_cons hi, cntF, if_pos hc]
theorem FuI.next {l : List Fnc} {i : Nat} {k : Int} (h : FuI l (i, k)) (hi : i < l.length) (hc : ¬ k + (1 + l[i].code.length) > 1024) : FuI l (i + 1, k + (1 + l[i].code.length)) := by
  have hk : 0 ≤ k := h.2.1
  refine ⟨hi, by simp only; omega, by simp only; omega, ?_⟩
  rw [h.2.2.2, List.drop_eq_getElem_cons hi, cntF, if_neg hc]
theorem FuI.end {l : List Fnc} {i : Nat} {k : Int} (h : FuI l (i, k)) (hi : l.length ≤ i) : cntF l 0 = (false, k) := by
  rw [h.2.2.2, List.drop_eq_nil_of_le hi]; rfl
theorem cntL_wt : ∀ (l : List Val) (k : Int), 0 ≤ k → k ≤ 16384 → (Val.cntL l k).1 = false → (Val.cntL l k).2 = k + Val.wtL l ∧ k + Val.wtL l ≤ 16384
  | [], k, _, hk, _ => by simp [Val.cntL, Val.wtL]; exact hk
  | x :: l, k, hk0, hk, hc => by
    rw [Val.cntL] at hc ⊢
    split at hc
    · cases hc
    rename_i hxx
    rw [if_neg hxx]
    obtain ⟨q1, q2⟩ := cnt_wt x k hk0 hk (by simpa using hxx)
    rw [q1] at hc ⊢
    obtain ⟨r1, r2⟩ := cntL_wt l (k + x.wt) (by omega) q2 hc
    simp only [Val.wtL]
    omega
def LlI (l : List (List Val)) (n0 : Int) (x : Nat × Int) : Prop := x.1 ≤ l.length ∧ 0 ≤ x.2 ∧ x.2 ≤ 16384 ∧ cntLL l n0 = cntLL (l.drop x.1) x.2
theorem LlI.hit {l : List (List Val)} {n0 : Int} {i : Nat} {k k' : Int} (h : LlI l n0 (i, k)) (hi : i < l.length) (hc : Val.cntL l[i] k = (true, k')) : cntLL l n0 = true := by
  rw [h.2.2.2, List.drop_eq_getElem_cons hi, cntLL, hc]; rfl
theorem LlI.next {l : List (List Val)} {n0 : Int} {i : Nat} {k k' : Int} (h : LlI l n0 (i, k)) (hi : i < l.length) (hc : Val.cntL l[i] k = (false, k')) : LlI l n0 (i + 1, k') := by
  have hk : 0 ≤ k := h.2.1
  have hk1 : k ≤ 16384 := h.2.2.1
  obtain ⟨q1, q2⟩ := cntL_wt l[i] k hk hk1 (by rw [hc])
  rw [hc] at q1
  simp only at q1
  refine ⟨hi, by simp only; omega, by simp only; omega, ?_⟩
  rw [h.2.2.2, List.drop_eq_getElem_cons hi, cntLL, hc]; rfl
theorem LlI.end {l : List (List Val)} {n0 : Int} {i : Nat} {k : Int} (h : LlI l n0 (i, k)) (hi : l.length ≤ i) : cntLL l n0 = false := by
  rw [h.2.2.2, List.drop_eq_nil_of_le hi]; rfl
structure Mdl.sm (m : Mdl) : Prop where
  hcl : m.consts.length < 2 ^ 40
  hfl : m.funcs.length < 2 ^ 40
  hf : ∀ f ∈ m.funcs, f.code.length < 2 ^ 40
theorem large_no {m : Mdl} {a b : List Val} (h : m.large a b = false) : Val.wtL m.consts ≤ 16384 ∧ Val.wtL a ≤ 16384 ∧ Val.wtL b ≤ 16384 := by
  have hF : ∀ (l : List Fnc) (k : Int), 0 ≤ k → k ≤ 1024 → (cntF l k).1 = false → 0 ≤ (cntF l k).2 ∧ (cntF l k).2 ≤ 1024 := by
    intro l
    induction l with
    | nil => intro k h0 h1 _; exact ⟨h0, h1⟩
    | cons f l ih =>
      intro k h0 h1 hc
      rw [cntF] at hc ⊢
      split at hc
      · cases hc
      rename_i hk
      rw [if_neg hk]
      exact ih _ (by omega) (by omega) hc
  unfold Mdl.large at h
  split at h
  · cases h
  rename_i hf
  obtain ⟨k0, k1⟩ := hF m.funcs 0 (by omega) (by omega) (by simpa using hf)
  generalize (cntF m.funcs 0).2 = k at *
  rw [cntLL] at h
  split at h
  · cases h
  rename_i h1
  obtain ⟨q1, q2⟩ := cntL_wt m.consts k k0 (by omega) (by simpa using h1)
  rw [q1, cntLL] at h
  split at h
  · cases h
  rename_i h2
  obtain ⟨r1, r2⟩ := cntL_wt a _ (by omega) q2 (by simpa using h2)
  rw [r1, cntLL] at h
  split at h
  · cases h
  rename_i h3
  obtain ⟨s1, s2⟩ := cntL_wt b _ (by omega) r2 (by simpa using h3)
  omega
theorem large_spec (m : Mdl) (a b : List Val) (hm : m.sm) (hc : Val.limL m.consts) (ha : Val.limL a) (hb : Val.limL b) (ha2 : a.length < 2 ^ 40) (hb2 : b.length < 2 ^ 40) :
    Ret prog f_quernlaw15_large [m.V, .lst [[valsV a], [valsV b]]] (vB (m.large a b)) := by
  refine J_pure fn_quernlaw15_large (by simp) ?_
  simp (config := { contextual := true, maxSteps := 2000000 }) (disch := omega) [-Int.not_lt, -Int.not_le, -Nat.not_lt, -Nat.not_le, elemK_get, wrapI, leT, leF, ltT, ltF, leTn, leFn, ltTn, ltFn, cd_quernlaw15_large]
  have hfl := hm.hfl
  refine loopS_while (fun x : Nat × Int => m.funcs.length - x.1) (fun x => [(15, vI x.1), (14, vI m.funcs.length), (13, .lst (m.funcs.map Fnc.cells)), (2, .bp (.l 2 0) 0), (5, .bp (.l 5 0) 0), (1, .lst [[valsV a], [valsV b]])])
    (fun x => [(.l 5 0, .box [vI x.2]), (.l 2 0, .box [.lst (m.consts.map Val.cells), .lst (m.funcs.map Fnc.cells)])]) (FuI m.funcs) (0, 0) ⟨Nat.zero_le _, by simp, by simp, rfl⟩ (Wk.subs (by simp) (by simp)) ?_
  rintro ⟨i, k⟩ hI
  have hi : i ≤ m.funcs.length := hI.1
  have hk0 : 0 ≤ k := hI.2.1
  have hk1 : k ≤ 1024 := hI.2.2.1
  simp (config := { contextual := true, maxSteps := 2000000 }) (disch := omega) [-Int.not_lt, -Int.not_le, -Nat.not_lt, -Nat.not_le, elemK_get, wrapI, leT, leF, ltT, ltF, leTn, leFn, ltTn, ltFn]
  refine ⟨fun hlt => ?_, fun hge => ?_⟩
  · have hcl := hm.hf _ (List.getElem_mem hlt)
    simp (config := { contextual := true, maxSteps := 2000000 }) (disch := omega) [-Int.not_lt, -Int.not_le, -Nat.not_lt, -Nat.not_le, elemK_get, wrapI, leT, leF, ltT, ltF, leTn, leFn, ltTn, ltFn]
    refine ⟨fun h => by unfold Mdl.large; rw [if_pos (hI.hit hlt (by omega))], fun h => ?_⟩
    exact .of (i + 1, k + (1 + m.funcs[i].code.length)) (hI.next hlt (by omega)) (by simp only; omega) (Wk.subs (by simp) (by simp))
  have he := hI.end (by omega)
  have hML : m.large a b = cntLL [m.consts, a, b] k := by unfold Mdl.large; rw [he]; rfl
  rw [hML]
  refine ⟨⟨_, rfl, rfl⟩, ?_⟩
  have hlim : ∀ l ∈ [m.consts, a, b], Val.limL l ∧ l.length < 2 ^ 40 := by
    intro l hl
    simp at hl
    rcases hl with rfl | rfl | rfl
    · exact ⟨hc, hm.hcl⟩
    · exact ⟨ha, ha2⟩
    · exact ⟨hb, hb2⟩
  have hL3 : [m.consts, a, b].length = 3 := rfl
  have hrow : ([[V.lst (List.map Val.cells m.consts)], [valsV a], [valsV b]] : List (List V)) = [m.consts, a, b].map fun l => [valsV l] := rfl
  rw [hrow]
  clear hML he hrow
  generalize [m.consts, a, b] = L at *
  refine loopS_while (fun x : Nat × Int => 3 - x.1) (fun x => [(34, vI x.1), (33, vI 3), (32, .arr (.l 32 0) 0 3), (5, .bp (.l 5 0) 0)])
    (fun x => [(.l 32 0, .row 22 1 true (L.map fun l => [valsV l])), (.l 5 0, .box [vI x.2])]) (LlI L k) (0, k) ⟨Nat.zero_le _, hk0, by simp only; omega, rfl⟩ (Wk.subs (by simp) (by simp)) ?_
  rintro ⟨j, n⟩ hJ
  have hj : j ≤ L.length := hJ.1
  have hn0 : 0 ≤ n := hJ.2.1
  have hn1 : n ≤ 16384 := hJ.2.2.1
  simp (config := { contextual := true, maxSteps := 2000000 }) (disch := omega) [-Int.not_lt, -Int.not_le, -Nat.not_lt, -Nat.not_le, elemK_get, wrapI, leT, leF, ltT, ltF, leTn, leFn, ltTn, ltFn]
  refine ⟨fun hlt => ?_, fun hge => hJ.end (by omega)⟩
  have hjl : j < L.length := by omega
  obtain ⟨hl1, hl2⟩ := hlim _ (List.getElem_mem hjl)
  have hhit := fun k' => hJ.hit (k' := k') hjl
  have hnext := fun k' => hJ.next (k' := k') hjl
  generalize L[j] = l at *
  refine loopS_while (fun x : Nat × Int => l.length - x.1) (fun x => [(40, vI x.1), (39, vI l.length), (38, valsV l), (34, vI j), (33, vI 3), (32, .arr (.l 32 0) 0 3), (5, .bp (.l 5 0) 0)])
    (fun x => [(.l 32 0, .row 22 1 true (L.map fun l => [valsV l])), (.l 5 0, .box [vI x.2])]) (CntI l n) (0, n) (.start hn0 hn1) (Wk.subs (by simp) (by simp)) ?_
  rintro ⟨i, q⟩ hI
  have hi : i ≤ l.length := hI.1
  have hq0 : 0 ≤ q := hI.2.1
  have hq1 : q ≤ 16384 := hI.2.2.1
  simp (config := { contextual := true, maxSteps := 2000000 }) (disch := omega) [-Int.not_lt, -Int.not_le, -Nat.not_lt, -Nat.not_le, elemK_get, wrapI, leT, leF, ltT, ltF, leTn, leFn, ltTn, ltFn]
  refine ⟨fun hlt => ?_, fun hge => ?_⟩
  · refine callS_obj [.l 5 0] rfl rfl (by simp) ?_
    simp
    have hpO := count_spec l[i] ((Val.limL_iff _).1 hl1 _ (List.getElem_mem hlt)) q hq0 hq1
    try simp [VmS.obs, VmS.obs', machObs] at hpO
    refine callJ_ret 45 hpO (by simp) ?_
    clear hpO
    simp (config := { contextual := true, maxSteps := 2000000 }) (disch := omega) [-Int.not_lt, -Int.not_le, -Nat.not_lt, -Nat.not_le, elemK_get, wrapI, leT, leF, ltT, ltF, leTn, leFn, ltTn, ltFn]
    refine ⟨fun hc => hhit _ (hI.hit hlt hc), fun hc => ?_⟩
    exact .of (i + 1, (l[i].cnt q).2) (hI.next hlt hc) (by simp only; omega) (Wk.subs (by simp) (by simp))
  · exact .of (j + 1, q) (hnext _ (hI.end (by omega))) (by simp only; omega) (Wk.subs (by simp) (by simp))
end Go.Am
end

section
namespace Go.Am
set_option maxRecDepth 100000
attribute [local irreducible] vc vcIs vcI vcOp vcD vcDp vcDR vcT vcAR stepD stepDp panD neG ne pv J callS callN loopS lookK evK evsK nthK objK boxK rowK boolK intK strK aggK fnK ifcK cellsK cellsLK ldK ldaK iaK srcK stK appK appD isnlD pvK callJ callJD callA
def smallM (l : List Ins) : Mdl := ⟨[Val.int 7], [⟨0, 0, 0, 1, l⟩]⟩
theorem small_spec (l : List Ins) (hl : l.length < 2 ^ 40) : Ret prog f_quernlaw15_small [.lst (l.map Ins.cells)] (smallM l).V := by
  refine J_pure fn_quernlaw15_small (by simp) ?_
  simp (config := { contextual := true, maxSteps := 2000000 }) (disch := omega) [-Int.not_lt, -Int.not_le, -Nat.not_lt, -Nat.not_le, elemK_get, wrapI, leT, leF, ltT, ltF, leTn, leFn, ltTn, ltFn, cd_quernlaw15_small, smallM]
  exact ⟨rfl, rfl⟩
theorem smallM_small (l : List Ins) (hl : l.length < 2 ^ 40) : (smallM l).small := ⟨fun v hv => by simp [smallM] at hv; subst hv; have := (ok_int (n := 7) (by omega) (by omega)).wt; omega, by simp [smallM], by simp [smallM], fun f hf => by simp [smallM] at hf; subst hf; exact hl⟩
theorem tyc_int (n : Int) : (Val.int n).tyc ≠ [] := by
  have h1 : (Val.int n).wt ≤ 16384 := by simp only [Val.int, Val.wt, Val.wtL]; show 1 + 0 + 0 ≤ 16384; decide
  have h2 : (Val.int n).fitK [105, 110, 116] = true := by
    unfold Val.fitK
    rw [if_pos rfl]
    simp [Val.int, Val.kind, Val.text, noS]
  unfold Val.tyc
  rw [if_pos ⟨rfl, h1⟩]
  simp [tyK, List.find?_cons, h2]
theorem smallM_ok (l : List Ins) (h1 : 1 ≤ l.length) (h2 : l.length ≤ 16384) (hi : ∀ i ∈ l, (smallM l).insOk 0 0 ⟨0, 0, 0, 1, l⟩ i = true) (G : Nat → Int) (hG : ((smallM l).gr ⟨0, 0, 0, 1, l⟩).good G) : (smallM l).vOk 0 := by
  refine ⟨by simp [smallM], by simp, by simp, by simp [smallM], fun v hv => by simp [smallM] at hv; subst hv; exact tyc_int 7, fun n hn => ?_⟩
  have : n = 0 := by simp [smallM] at hn; exact hn
  subst this
  refine ⟨⟨by simp [smallM], by simp [smallM], by simp [smallM], by simp [smallM], by simp [smallM], by simp [smallM], by simp [smallM], by simp [smallM], h1, h2⟩, hi, ?_⟩
  simp only [Gr.hB, decide_eq_true_eq]
  exact ⟨G, hG⟩
abbrev l1 : List Ins := [⟨1, 0⟩, ⟨10, 0⟩]
abbrev l2 : List Ins := [⟨7, 0⟩]
abbrev l3 : List Ins := [⟨1, 0⟩, ⟨14, 0⟩, ⟨10, 0⟩]
theorem vok1 : (smallM l1).vOk 0 := by
  refine smallM_ok l1 (by simp) (by simp) ?_ (fun p => if p = 0 then 0 else if p = 1 then 1 else -1) ?_
  · intro i hi; simp at hi; rcases hi with rfl | rfl <;> simp [Mdl.insOk, Mdl.most, smallM]
  · refine ⟨rfl, fun p hp hp0 => ?_⟩
    have hp2 : p < 2 := hp
    have : p = 0 ∨ p = 1 := by omega
    rcases this with rfl | rfl <;> simp [Gr.okAt, Gr.out, Mdl.gr, Mdl.pops, Ins.pushes, Ins.nexts]
theorem vok2 : (smallM l2).vOk 0 := by
  refine smallM_ok l2 (by simp) (by simp) ?_ (fun p => if p = 0 then 0 else -1) ?_
  · intro i hi; simp at hi; rcases hi with rfl; simp [Mdl.insOk, Mdl.most, smallM]
  · refine ⟨rfl, fun p hp hp0 => ?_⟩
    have hp2 : p < 1 := hp
    have : p = 0 := by omega
    subst this
    simp [Gr.okAt, Gr.out, Mdl.gr, Mdl.pops, Ins.pushes, Ins.nexts]
theorem vok3 : (smallM l3).vOk 0 := by
  refine smallM_ok l3 (by simp) (by simp) ?_ (fun p => if p = 0 then 0 else if p = 1 then 1 else if p = 2 then 1 else -1) ?_
  · intro i hi; simp at hi; rcases hi with rfl | rfl | rfl <;> simp [Mdl.insOk, Mdl.most, smallM]
  · refine ⟨rfl, fun p hp hp0 => ?_⟩
    have hp2 : p < 3 := hp
    have : p = 0 ∨ p = 1 ∨ p = 2 := by omega
    rcases this with rfl | rfl | rfl <;> simp [Gr.okAt, Gr.out, Mdl.gr, Mdl.pops, Ins.pushes, Ins.nexts]
theorem beg {l : List Ins} (h : (smallM l).vOk 0) : Begins (smallM l) [] 0 [] := ⟨h, Int.le_refl _, by simp [smallM], by simp [smallM], rfl, rfl⟩
theorem fitE (at_ fuel : Int) (h0 : 0 ≤ at_) (h1 : 0 ≤ fuel) (h2 : fuel < 2 ^ 40) : (⟨[], [], at_, [], fuel⟩ : Fr).fit := ⟨h0, by simp, h1, h2, by simp⟩
theorem fit7 (at_ fuel : Int) (h0 : 0 ≤ at_) (h1 : 0 ≤ fuel) (h2 : fuel < 2 ^ 40) : (⟨[], [Val.int 7], at_, [], fuel⟩ : Fr).fit :=
  ⟨h0, by simp, h1, h2, fun v hv => by simp at hv; subst hv; exact keeps_ok.ok _ (ok_int (by omega) (by omega))⟩
theorem run_on {m : Mdl} {g : Nat} {f : Fnc} {S S' : Fr} {i : Ins} (hf : S.fit) (hc : f.code[S.at_.toNat]? = some i) (h10 : i.op ≠ 10) (h9 : i.op ≠ 9) (hp : prim m i { S with at_ := S.at_ + 1 } = some (.on S')) : run m (g + 1) f S = run m g f S' := by
  rw [run, if_pos hf, hc]
  simp only [Option.bind_some]
  rw [if_neg h10, if_neg h9, hp]
theorem run1 : run (smallM l1) 2 ⟨0, 0, 0, 1, l1⟩ (Fnc.start ⟨0, 0, 0, 1, l1⟩ [] [] 9) = some (.val (Val.int 7) [] 9) := by
  show run (smallM l1) 2 ⟨0, 0, 0, 1, l1⟩ ⟨[], [], 0, [], 9⟩ = _
  rw [run, if_pos (fitE _ _ (by omega) (by omega) (by omega))]
  show run (smallM l1) 1 ⟨0, 0, 0, 1, l1⟩ ⟨[], [Val.int 7], 1, [], 9⟩ = _
  rw [run, if_pos (fit7 _ _ (by omega) (by omega) (by omega))]
  rfl
theorem run2 : ∀ n : Nat, n ≤ 9 → run (smallM l2) (n + 1) ⟨0, 0, 0, 1, l2⟩ ⟨[], [], 0, [], n⟩ = some (.trap 54 [] 0)
  | 0, _ => by
    rw [run, if_pos (fitE _ _ (by omega) (by omega) (by omega))]
    rfl
  | n + 1, h => by
    have ih := run2 n (by omega)
    have hf := fitE 0 ((n + 1 : Nat) : Int) (by omega) (by omega) (by omega)
    have hp : prim (smallM l2) ⟨7, 0⟩ ⟨[], [], 0 + 1, [], ((n + 1 : Nat) : Int)⟩ = some (.on ⟨[], [], 0, [], n⟩) := by
      simp [prim, Fr.jump]; omega
    rw [run_on hf (i := ⟨7, 0⟩) rfl (by simp) (by simp) hp]
    exact ih
theorem run3 : run (smallM l3) 2 ⟨0, 0, 0, 1, l3⟩ (Fnc.start ⟨0, 0, 0, 1, l3⟩ [] [] 9) = some (.trap 40 [] 9) := by
  show run (smallM l3) 2 ⟨0, 0, 0, 1, l3⟩ ⟨[], [], 0, [], 9⟩ = _
  rw [run, if_pos (fitE _ _ (by omega) (by omega) (by omega))]
  show run (smallM l3) 1 ⟨0, 0, 0, 1, l3⟩ ⟨[], [Val.int 7], 1, [], 9⟩ = _
  rw [run, if_pos (fit7 _ _ (by omega) (by omega) (by omega))]
  rfl
theorem hw1 (v : Val) (sts : List Val) (fuel : Int) (h : Out.val (Val.int 7) [] 9 = .val v sts fuel) : v.wt < 2 ^ 40 ∧ Val.wtL sts < 2 ^ 40 := by
  injection h with h1 h2 h3
  subst h1 h2
  have := (ok_int (n := 7) (by omega) (by omega)).wt
  exact ⟨by omega, by show 0 < 2 ^ 40; decide⟩
theorem wakes_spec : Ret prog f_quernlaw15_wakes [] (vB true) := by
  refine J_pure fn_quernlaw15_wakes (by simp) ?_
  simp (config := { contextual := true, maxSteps := 2000000 }) (disch := omega) [-Int.not_lt, -Int.not_le, -Nat.not_lt, -Nat.not_le, elemK_get, wrapI, leT, leF, ltT, ltF, leTn, leFn, ltTn, ltFn, cd_quernlaw15_wakes]
  refine callS_go ?_; simp; refine callA_of (small_spec l1 (by simp)) (by simp) ?_
  simp (config := { contextual := true, maxSteps := 2000000 }) (disch := omega) [-Int.not_lt, -Int.not_le, -Nat.not_lt, -Nat.not_le, elemK_get, wrapI, leT, leF, ltT, ltF, leTn, leFn, ltTn, ltFn]
  refine callS_go ?_; simp; refine callA_of (vm_Run_ok (smallM l1) (smallM_small l1 (by simp)) [] 0 [] 9 (by simp [Val.wtL]) (by simp [Val.wtL]) (beg vok1) 2 _ run1 hw1) (by simp [RunIs, ocells, V.pure, V.pureL]) ?_
  simp (config := { contextual := true, maxSteps := 2000000 }) (disch := omega) [-Int.not_lt, -Int.not_le, -Nat.not_lt, -Nat.not_le, elemK_get, wrapI, leT, leF, ltT, ltF, leTn, leFn, ltTn, ltFn, RunIs, ocells]
  refine callS_go ?_; simp; refine callA_of (small_spec l2 (by simp)) (by simp) ?_
  simp (config := { contextual := true, maxSteps := 2000000 }) (disch := omega) [-Int.not_lt, -Int.not_le, -Nat.not_lt, -Nat.not_le, elemK_get, wrapI, leT, leF, ltT, ltF, leTn, leFn, ltTn, ltFn]
  refine callS_go ?_; simp; refine callA_of (vm_Run_ok (smallM l2) (smallM_small l2 (by simp)) [] 0 [] 9 (by simp [Val.wtL]) (by simp [Val.wtL]) (beg vok2) 10 _ (run2 9 (by omega)) (fun v sts fuel h => by cases h)) (by simp [RunIs, ocells, V.pure, V.pureL]) ?_
  simp (config := { contextual := true, maxSteps := 2000000 }) (disch := omega) [-Int.not_lt, -Int.not_le, -Nat.not_lt, -Nat.not_le, elemK_get, wrapI, leT, leF, ltT, ltF, leTn, leFn, ltTn, ltFn, RunIs, ocells]
  refine callS_go ?_; simp; refine callA_of (small_spec l3 (by simp)) (by simp) ?_
  simp (config := { contextual := true, maxSteps := 2000000 }) (disch := omega) [-Int.not_lt, -Int.not_le, -Nat.not_lt, -Nat.not_le, elemK_get, wrapI, leT, leF, ltT, ltF, leTn, leFn, ltTn, ltFn]
  refine callS_go ?_; simp; refine callA_of (vm_Run_ok (smallM l3) (smallM_small l3 (by simp)) [] 0 [] 9 (by simp [Val.wtL]) (by simp [Val.wtL]) (beg vok3) 2 _ run3 (fun v sts fuel h => by cases h)) (by simp [RunIs, ocells, V.pure, V.pureL]) ?_
  simp (config := { contextual := true, maxSteps := 2000000 }) (disch := omega) [-Int.not_lt, -Int.not_le, -Nat.not_lt, -Nat.not_le, elemK_get, wrapI, leT, leF, ltT, ltF, leTn, leFn, ltTn, ltFn, RunIs, ocells, Val.int, Val.num]
end Go.Am
end

section
namespace Go.Am
set_option maxRecDepth 100000
attribute [local irreducible] vc vcIs vcI vcOp vcD vcDp vcDR vcT vcAR stepD stepDp panD neG ne pv J callS callN loopS lookK evK evsK nthK objK boxK rowK boolK intK strK aggK fnK ifcK cellsK cellsLK ldK ldaK iaK srcK stK appK appD isnlD pvK callJ callJD callA
structure Handed15 (m : Mdl) (states args : List Val) : Prop where
  sm : m.sm
  hc : Val.limL m.consts
  hs : Val.limL states
  ha : Val.limL args
  ls : states.length < 2 ^ 40
  la : args.length < 2 ^ 40
theorem limL_ok {l : List Val} (h : Val.limL l) (hw : Val.wtL l ≤ 16384) : ∀ v ∈ l, v.ok := fun v hv => ⟨by have := Val.wtL_mem hv; omega, ((Val.limL_iff _).1 h v hv).rng⟩
theorem Handed15.small {m : Mdl} {states args : List Val} (h : Handed15 m states args) (hl : m.large states args = false) : m.small :=
  ⟨fun v hv => by have := Val.wtL_mem hv; have := (large_no hl).1; omega, h.sm.hcl, h.sm.hfl, h.sm.hf⟩
theorem OutOk.wt {st fuel : Int} {out : Out} (h : OutOk Val.ok st fuel out) (hst : st ≤ 32) : ∀ v sts fu, out = .val v sts fu → v.wt < 2 ^ 40 ∧ Val.wtL sts < 2 ^ 40 := by
  rintro v sts fu rfl
  obtain ⟨q1, q2, q3, q4, q5⟩ := h
  refine ⟨by have := q1.wt; omega, ?_⟩
  have key : ∀ l : List Val, (∀ x ∈ l, x.ok) → Val.wtL l ≤ 16384 * l.length := by
    intro l
    induction l with
    | nil => intro _; simp [Val.wtL]
    | cons x l ih =>
      intro hx
      have h1 := (hx x (by simp)).wt
      have h2 := ih fun y hy => hx y (by simp [hy])
      simp only [Val.wtL, List.length_cons]; omega
  have := key sts q2
  omega
end Go.Am
end

section
namespace Go.Am
open Go
open Go.Proofs.YtnkfojenfnbchaaGreatDoor (Rows.uptoBulk Rows.uptoBulkAll)
section
variable {H : Type} {enc : TypeId × Value → H} {W : World} {sp : Nat → Bool} {held : Bool}
def imW (W : World) : Imm := fun b => match W.heap[b]? with | some (.cells cs _ _) => some cs | _ => none
theorem cell_imW {a : Addr} {v : Value} (h : W.cell? a = some v) : a.spot = none ∧ ∃ cs, imW W a.block = some cs ∧ cs[a.off]? = some v := by
  unfold World.cell? at h
  unfold imW
  split at h
  · rename_i c e f hb
    split at h
    · cases h
    · rename_i hs
      rw [hb]
      exact ⟨by simpa using hs, c, rfl, h⟩
  · cases h
theorem exists_list {α : Type} {n : Nat} {p : Nat → α → Prop} (h : ∀ i, i < n → ∃ a, p i a) : ∃ l : List α, l.length = n ∧ ∀ i (hi : i < l.length), p i l[i] := by
  induction n with
  | zero => exact ⟨[], rfl, fun i hi => by simp at hi⟩
  | succ n ih =>
    obtain ⟨l, h1, h2⟩ := ih fun i hi => h i (by omega)
    obtain ⟨a, ha⟩ := h n (by omega)
    refine ⟨l ++ [a], by simp [h1], fun i hi => ?_⟩
    by_cases e : i < l.length
    · rw [List.getElem_append_left e]; exact h2 i e
    · have : i = n := by simp at hi; omega
      subst this
      rw [List.getElem_append_right (by omega)]
      simpa [h1] using ha
theorem addr_add {a : Addr} (h : a.spot = none) (k : Nat) : a.add k = ⟨a.block, a.off + k, none⟩ := by
  obtain ⟨b, o, s⟩ := a
  simp only at h; subst h
  unfold Addr.add
  split
  · rename_i h0; subst h0; rfl
  · rfl
theorem rd_slice {P : Program} {α : Type} (cells : α → List V) (Q : α → DataW H → Prop) {t e : TypeId} {sz : Nat} (ht : P.underlying t = some (.slice e)) (hsz : P.cellsOf e = sz) (hpos : 0 < sz)
    (hflat : ∀ a, (cells a).length = sz ∧ scalars (cells a) = true) {n : Nat} (rd : ∀ cs x, DataW.trod enc P W 0 sp held n e cs = some x → ∃ a, Q a x.1 ∧ ∀ j u, (cells a)[j]? = some u → R (imW W) Mu.bot u (cs.getD j undef))
    {cs : List Value} {x : DataW H × List MemPlace} (h : DataW.trod enc P W 0 sp held (n + 1) t cs = some x) :
    ∃ (l : List α) (v : Value), cs = [v] ∧ R (imW W) Mu.bot (.lst (l.map cells)) v ∧ ((x.1 = .nil ∧ l = []) ∨ ∃ ds rest, x.1 = .slice ds rest ∧ ds.length = l.length ∧ ∀ i (h1 : i < l.length) (h2 : i < ds.length), Q l[i] ds[i]) := by
  rcases DataW.trod_slice ht h with ⟨rfl, rfl⟩ | ⟨a, len, cap, elems, rest, n', hn, rfl, rfl, _, hlc, _, hlen, hel, _⟩
  · refine ⟨[], _, rfl, ?_, .inl ⟨rfl, rfl⟩⟩
    exact .lst [] sz none 0 0 (fun _ _ => undef) rfl (Nat.le_refl _) (fun i e h => by simp at h) (fun i e j v h => by simp at h) (fun i e j v h => by simp at h)
  have : n' = n := by omega
  subst this
  subst hsz
  have key : ∀ i, i < len → ∃ a' : α × List Value, (∃ y, elems[i]? = some y ∧ Q a'.1 y.1) ∧ W.cells? 0 (a.add (i * P.cellsOf e)) (P.cellsOf e) = some a'.2 ∧ ∀ j u, (cells a'.1)[j]? = some u → R (imW W) Mu.bot u (a'.2.getD j undef) := by
    intro i hi
    have h1 := hel i hi
    rw [List.getElem?_eq_getElem (show i < elems.length by omega)] at h1
    obtain ⟨cs', q1, q2⟩ := Option.bind_eq_some_iff.1 h1
    obtain ⟨b, q3, q4⟩ := rd _ _ q2
    exact ⟨(b, cs'), ⟨_, List.getElem?_eq_getElem (by omega), q3⟩, q1, q4⟩
  obtain ⟨l, hl, hp⟩ := exists_list key
  refine ⟨l.map (·.1), _, rfl, ?_, .inr ⟨elems.map (·.1), rest.map (·.1), rfl, by simp [hl, hlen], fun i h1 h2 => ?_⟩⟩
  · have hspot : 0 < len → a.spot = none := fun h0 => by
      obtain ⟨_, q1, _⟩ := hp 0 (by omega)
      obtain ⟨_, q2, q3⟩ := World.cells?_some q1
      have q4 := q3 0 hpos
      rw [List.getElem?_eq_getElem (by omega)] at q4
      have q5 := (cell_imW q4).1
      simpa [Addr.add] using q5
    refine .lst _ (P.cellsOf e) (some a) len cap (fun i j => ((l[i]?.map (·.2)).getD []).getD j undef) (by simp [hl]) hlc (fun i e' he => ?_) (fun i e' j v he hj => ?_) (fun i e' j v he hj => ?_)
    · simp only [List.map_map, List.getElem?_map, Option.map_eq_some_iff] at he
      obtain ⟨b, _, rfl⟩ := he
      exact hflat _
    · simp only [List.map_map, List.getElem?_map, Option.map_eq_some_iff] at he
      obtain ⟨b, hb, rfl⟩ := he
      obtain ⟨hi, rfl⟩ := List.getElem?_eq_some_iff.1 hb
      obtain ⟨_, q1, _⟩ := hp i hi
      obtain ⟨_, q2, q3⟩ := World.cells?_some q1
      have hs := hspot (by omega)
      have hjs : j < P.cellsOf e := by rw [← (hflat l[i].1).1]; exact (List.getElem?_eq_some_iff.1 hj).1
      have q4 := q3 j hjs
      rw [List.getElem?_eq_getElem (by omega), addr_add (a := a) hs, addr_add rfl] at q4
      obtain ⟨_, cs, q5, q6⟩ := cell_imW q4
      refine ⟨a.block, a.off, cs, ?_, q5, ?_⟩
      · obtain ⟨b, o, s⟩ := a; simp only at hs; subst hs; rfl
      · simp only at q6
        rw [q6]
        simp [hb, List.getElem?_eq_getElem (show j < l[i].2.length by omega)]
    · simp only [List.map_map, List.getElem?_map, Option.map_eq_some_iff] at he
      obtain ⟨b, hb, rfl⟩ := he
      obtain ⟨hi, rfl⟩ := List.getElem?_eq_some_iff.1 hb
      obtain ⟨_, _, q4⟩ := hp i hi
      have := q4 j v hj
      simpa [hb] using this
  · obtain ⟨⟨y, q1, q2⟩, _⟩ := hp i (by simpa using h1)
    have hy : elems[i]? = some y := q1
    obtain ⟨hi, rfl⟩ := List.getElem?_eq_some_iff.1 hy
    simpa using q2
end
end Go.Am
end

section
namespace Go.Am
open Go
set_option maxRecDepth 100000
section
variable {H : Type} {enc : TypeId × Value → H} {W : World} {sp : Nat → Bool} {held : Bool}
theorem c31 : Go.Proofs.Tryz.prog.cellsOf 31 = 4 := by kernel_rfl
theorem c52 : Go.Proofs.Tryz.prog.cellsOf 52 = 5 := by kernel_rfl
theorem c48 : Go.Proofs.Tryz.prog.cellsOf 48 = 2 := by kernel_rfl
theorem c3 : Go.Proofs.Tryz.prog.cellsOf 3 = 1 := by kernel_rfl
theorem c9 : Go.Proofs.Tryz.prog.cellsOf 9 = 1 := by kernel_rfl
theorem c22 : Go.Proofs.Tryz.prog.cellsOf 22 = 1 := by kernel_rfl
theorem c23 : Go.Proofs.Tryz.prog.cellsOf 23 = 1 := by kernel_rfl
theorem c50 : Go.Proofs.Tryz.prog.cellsOf 50 = 1 := by kernel_rfl
theorem wf_rng {n : Int} (h : (Lit.int .i64 n).wf = true) : -9223372036854775808 ≤ n ∧ n < 9223372036854775808 := by
  simp only [Lit.wf, Bool.and_eq_true, decide_eq_true_eq] at h
  have h1 : IntKind.i64.min = -9223372036854775808 := by decide
  have h2 : IntKind.i64.max = 9223372036854775807 := by decide
  omega
abbrev bulk (d : DataW H) : Nat := Go.Proofs.YtnkfojenfnbchaaGreatDoor.Rows.uptoBulk d
theorem bulk_pos (d : DataW H) : 1 ≤ bulk d := by
  cases d with
  | lit l => cases l <;> simp [Go.Proofs.YtnkfojenfnbchaaGreatDoor.Rows.uptoBulk]
  | _ => simp [Go.Proofs.YtnkfojenfnbchaaGreatDoor.Rows.uptoBulk]
theorem sum_bulk {α : Type} (f : α → Nat) : ∀ (l : List α) (ds : List (DataW H)), ds.length = l.length → (∀ i (h1 : i < l.length) (h2 : i < ds.length), f l[i] ≤ bulk ds[i]) → (l.map f).sum ≤ Go.Proofs.YtnkfojenfnbchaaGreatDoor.Rows.uptoBulkAll ds
  | [], ds, _, _ => by simp
  | a :: l, [], h, _ => by simp at h
  | a :: l, d :: ds, h, hq => by
    have h0 : f a ≤ Go.Proofs.YtnkfojenfnbchaaGreatDoor.Rows.uptoBulk d := hq 0 (by simp) (by simp)
    have ih := sum_bulk f l ds (by simpa using h) fun i h1 h2 => hq (i + 1) (by simpa using h1) (by simpa using h2)
    simp only [List.map_cons, List.sum_cons, Go.Proofs.YtnkfojenfnbchaaGreatDoor.Rows.uptoBulkAll]
    omega
theorem sum_ones {α : Type} (l : List α) : (l.map fun _ => 1).sum = l.length := by
  induction l with
  | nil => rfl
  | cons a l ih => simp only [List.map_cons, List.sum_cons, List.length_cons, ih]; omega
theorem wtL_sum (l : List Val) : Val.wtL l = (l.map Val.wt).sum := by
  induction l with
  | nil => rfl
  | cons v l ih => simp [Val.wtL, ih]
def QVal (v : Val) (d : DataW H) : Prop := v.rng ∧ v.wt ≤ bulk d
theorem rd_val : ∀ (n : Nat) (cs : List Value) (x : DataW H × List MemPlace), DataW.trod enc Go.Proofs.Tryz.prog W 0 sp held n 31 cs = some x →
    ∃ v : Val, QVal v x.1 ∧ ∀ j u, v.cells[j]? = some u → R (imW W) Mu.bot u (cs.getD j undef) := by
  intro n
  induction n using Nat.strongRecOn with
  | _ n ih =>
  intro cs x h
  obtain ⟨xs, n1, rfl, rfl, hl, hxl, hf⟩ := DataW.trod_struct Go.Proofs.Tryz.underlying31 h
  rw [c31] at hl
  have f0 : DataW.trod enc Go.Proofs.Tryz.prog W 0 sp held n1 3 ((cs.drop 0).take (Go.Proofs.Tryz.prog.cellsOf 3)) = xs[0]? := hf 0 _ rfl
  rw [c3] at f0
  have f1 : DataW.trod enc Go.Proofs.Tryz.prog W 0 sp held n1 3 ((cs.drop 1).take (Go.Proofs.Tryz.prog.cellsOf 3)) = xs[1]? := hf 1 _ rfl
  rw [c3] at f1
  have f2 : DataW.trod enc Go.Proofs.Tryz.prog W 0 sp held n1 9 ((cs.drop 2).take (Go.Proofs.Tryz.prog.cellsOf 9)) = xs[2]? := hf 2 _ rfl
  rw [c9] at f2
  have f3 : DataW.trod enc Go.Proofs.Tryz.prog W 0 sp held n1 22 ((cs.drop 3).take (Go.Proofs.Tryz.prog.cellsOf 22)) = xs[3]? := hf 3 _ rfl
  rw [c22] at f3
  match cs, hl, xs, hxl with
  | [v0, v1, v2, v3], _, [y0, y1, y2, y3], _ =>
  simp only [List.drop, List.take, List.getElem?_cons_zero, List.getElem?_cons_succ] at f0 f1 f2 f3
  obtain ⟨k, e0, rfl, w0⟩ := DataW.trod_int Go.Proofs.Tryz.underlying3 f0
  obtain ⟨z, e1, rfl, w1⟩ := DataW.trod_int Go.Proofs.Tryz.underlying3 f1
  obtain ⟨s, e2, rfl, _⟩ := DataW.trod_string Go.Proofs.Tryz.underlying9 f2
  injection e0 with e0; injection e1 with e1; injection e2 with e2
  subst e0 e1 e2
  cases n1 with
  | zero => simp [DataW.trod] at f3
  | succ n2 =>
  obtain ⟨l, v, e3, hR, hq⟩ := rd_slice Val.cells QVal Go.Proofs.Tryz.underlying22 c31 (by omega) (fun a => ⟨a.cells_len, a.scalars0⟩) (ih n2 (by omega)) f3
  injection e3 with e3
  subst e3
  refine ⟨.mk k z s l, ⟨?_, ?_⟩, fun j u hj => ?_⟩
  · refine (Val.rng_eq _).2 ⟨wf_rng w1, (Val.rngL_iff _).2 fun x hx => ?_⟩
    rcases hq with ⟨_, rfl⟩ | ⟨ds, rest, hy, hlen, hQ⟩
    · cases hx
    · obtain ⟨i, hi, rfl⟩ := List.getElem_of_mem hx
      exact (hQ i hi (by rw [hlen]; exact hi)).1
  · simp only [Val.wt, List.map_cons, List.map_nil, Go.Proofs.YtnkfojenfnbchaaGreatDoor.Rows.uptoBulk, Go.Proofs.YtnkfojenfnbchaaGreatDoor.Rows.uptoBulkAll]
    have hs : s.data.toList.length = s.size := Array.length_toList
    have hw : Val.wtL l ≤ Go.Proofs.YtnkfojenfnbchaaGreatDoor.Rows.uptoBulk y3.1 := by
      rcases hq with ⟨_, rfl⟩ | ⟨ds, rest, hy, hlen, hQ⟩
      · simp [Val.wtL]
      · rw [hy, wtL_sum]
        have := sum_bulk Val.wt l ds hlen fun i h1 h2 => (hQ i h1 h2).2
        simp only [Go.Proofs.YtnkfojenfnbchaaGreatDoor.Rows.uptoBulk]
        omega
    omega
  · rw [Val.cells_eq] at hj
    match j, hj with
    | 0, hj => injection hj with hj; subst hj; exact .c _
    | 1, hj => injection hj with hj; subst hj; exact .c _
    | 2, hj => injection hj with hj; subst hj; exact .c _
    | 3, hj => injection hj with hj; subst hj; exact hR
    | j + 4, hj => simp at hj
def QIns (i : Ins) (d : DataW H) : Prop := True
theorem rd_ins (n : Nat) (cs : List Value) (x : DataW H × List MemPlace) (h : DataW.trod enc Go.Proofs.Tryz.prog W 0 sp held n 48 cs = some x) :
    ∃ v : Ins, QIns v x.1 ∧ ∀ j u, v.cells[j]? = some u → R (imW W) Mu.bot u (cs.getD j undef) := by
  obtain ⟨xs, n1, rfl, rfl, hl, hxl, hf⟩ := DataW.trod_struct Go.Proofs.Tryz.underlying48 h
  rw [c48] at hl
  have f0 : DataW.trod enc Go.Proofs.Tryz.prog W 0 sp held n1 3 ((cs.drop 0).take (Go.Proofs.Tryz.prog.cellsOf 3)) = xs[0]? := hf 0 _ rfl
  rw [c3] at f0
  have f1 : DataW.trod enc Go.Proofs.Tryz.prog W 0 sp held n1 3 ((cs.drop 1).take (Go.Proofs.Tryz.prog.cellsOf 3)) = xs[1]? := hf 1 _ rfl
  rw [c3] at f1
  match cs, hl, xs, hxl with
  | [v0, v1], _, [y0, y1], _ =>
  simp only [List.drop, List.take, List.getElem?_cons_zero, List.getElem?_cons_succ] at f0 f1
  obtain ⟨k, e0, rfl, w0⟩ := DataW.trod_int Go.Proofs.Tryz.underlying3 f0
  obtain ⟨z, e1, rfl, w1⟩ := DataW.trod_int Go.Proofs.Tryz.underlying3 f1
  injection e0 with e0; injection e1 with e1
  subst e0 e1
  refine ⟨⟨k, z⟩, trivial, fun j u hj => ?_⟩
  rw [Ins.cells_eq] at hj
  match j, hj with
  | 0, hj => injection hj with hj; subst hj; exact .c _
  | 1, hj => injection hj with hj; subst hj; exact .c _
  | j + 2, hj => simp at hj
def QFnc (f : Fnc) (d : DataW H) : Prop := f.code.length ≤ bulk d
theorem rd_fnc (n : Nat) (cs : List Value) (x : DataW H × List MemPlace) (h : DataW.trod enc Go.Proofs.Tryz.prog W 0 sp held n 52 cs = some x) :
    ∃ v : Fnc, QFnc v x.1 ∧ ∀ j u, v.cells[j]? = some u → R (imW W) Mu.bot u (cs.getD j undef) := by
  obtain ⟨xs, n1, rfl, rfl, hl, hxl, hf⟩ := DataW.trod_struct Go.Proofs.Tryz.underlying52 h
  rw [c52] at hl
  have f0 : DataW.trod enc Go.Proofs.Tryz.prog W 0 sp held n1 3 ((cs.drop 0).take (Go.Proofs.Tryz.prog.cellsOf 3)) = xs[0]? := hf 0 _ rfl
  rw [c3] at f0
  have f1 : DataW.trod enc Go.Proofs.Tryz.prog W 0 sp held n1 3 ((cs.drop 1).take (Go.Proofs.Tryz.prog.cellsOf 3)) = xs[1]? := hf 1 _ rfl
  rw [c3] at f1
  have f2 : DataW.trod enc Go.Proofs.Tryz.prog W 0 sp held n1 3 ((cs.drop 2).take (Go.Proofs.Tryz.prog.cellsOf 3)) = xs[2]? := hf 2 _ rfl
  rw [c3] at f2
  have f3 : DataW.trod enc Go.Proofs.Tryz.prog W 0 sp held n1 3 ((cs.drop 3).take (Go.Proofs.Tryz.prog.cellsOf 3)) = xs[3]? := hf 3 _ rfl
  rw [c3] at f3
  have f4 : DataW.trod enc Go.Proofs.Tryz.prog W 0 sp held n1 50 ((cs.drop 4).take (Go.Proofs.Tryz.prog.cellsOf 50)) = xs[4]? := hf 4 _ rfl
  rw [c50] at f4
  match cs, hl, xs, hxl with
  | [v0, v1, v2, v3, v4], _, [y0, y1, y2, y3, y4], _ =>
  simp only [List.drop, List.take, List.getElem?_cons_zero, List.getElem?_cons_succ] at f0 f1 f2 f3 f4
  obtain ⟨k0, e0, rfl, w0⟩ := DataW.trod_int Go.Proofs.Tryz.underlying3 f0
  obtain ⟨k1, e1, rfl, w1⟩ := DataW.trod_int Go.Proofs.Tryz.underlying3 f1
  obtain ⟨k2, e2, rfl, w2⟩ := DataW.trod_int Go.Proofs.Tryz.underlying3 f2
  obtain ⟨k3, e3, rfl, w3⟩ := DataW.trod_int Go.Proofs.Tryz.underlying3 f3
  injection e0 with e0; injection e1 with e1; injection e2 with e2; injection e3 with e3
  subst e0 e1 e2 e3
  cases n1 with
  | zero => simp [DataW.trod] at f4
  | succ n2 =>
  obtain ⟨l, v, e4, hR, hq⟩ := rd_slice Ins.cells QIns Go.Proofs.Tryz.underlying50 c48 (by omega) (fun a => ⟨a.cells_len, a.scalars0⟩) (rd_ins n2) f4
  injection e4 with e4
  subst e4
  refine ⟨⟨k0, k1, k2, k3, l⟩, ?_, fun j u hj => ?_⟩
  · simp only [QFnc, List.map_cons, List.map_nil, Go.Proofs.YtnkfojenfnbchaaGreatDoor.Rows.uptoBulk, Go.Proofs.YtnkfojenfnbchaaGreatDoor.Rows.uptoBulkAll]
    have hw : l.length ≤ Go.Proofs.YtnkfojenfnbchaaGreatDoor.Rows.uptoBulk y4.1 := by
      rcases hq with ⟨_, rfl⟩ | ⟨ds, rest, hy, hlen, hQ⟩
      · simp
      · rw [hy]
        have := sum_bulk (fun _ => 1) l ds hlen fun i h1 h2 => bulk_pos _
        rw [sum_ones] at this
        simp only [Go.Proofs.YtnkfojenfnbchaaGreatDoor.Rows.uptoBulk]
        omega
    omega
  · rw [Fnc.cells_eq] at hj
    match j, hj with
    | 0, hj => injection hj with hj; subst hj; exact .c _
    | 1, hj => injection hj with hj; subst hj; exact .c _
    | 2, hj => injection hj with hj; subst hj; exact .c _
    | 3, hj => injection hj with hj; subst hj; exact .c _
    | 4, hj => injection hj with hj; subst hj; exact hR
    | j + 5, hj => simp at hj
end
end Go.Am
end

section
namespace Go.Am
open Go
set_option maxRecDepth 100000
section
variable {H : Type} {enc : TypeId × Value → H} {W : World} {sp : Nat → Bool} {held : Bool}
theorem lim_of {v : Val} : v.rng → v.wt < 2 ^ 40 → v.lim := by
  induction v using Val.induct with
  | h v ih =>
  intro h1 h2
  have hw := v.wt_eq
  have hl := Val.len_wtL v.list
  obtain ⟨q1, q2⟩ := v.rng_eq.1 h1
  refine v.lim_eq.2 ⟨q1, by omega, by omega, (Val.limL_iff _).2 fun x hx => ?_⟩
  have := Val.wtL_mem hx
  exact ih x hx ((Val.rngL_iff _).1 q2 x hx) (by omega)
theorem rd_vals {n : Nat} {cs : List Value} {x : DataW H × List MemPlace} (h : DataW.trod enc Go.Proofs.Tryz.prog W 0 sp held n 22 cs = some x) (hb : Go.Proofs.YtnkfojenfnbchaaGreatDoor.Rows.uptoBulk x.1 < 2 ^ 40) :
    ∃ (l : List Val) (v : Value), cs = [v] ∧ R (imW W) Mu.bot (valsV l) v ∧ Val.limL l ∧ l.length < 2 ^ 40 := by
  cases n with
  | zero => simp [DataW.trod] at h
  | succ n =>
  obtain ⟨l, v, e3, hR, hq⟩ := rd_slice Val.cells QVal Go.Proofs.Tryz.underlying22 c31 (by omega) (fun a => ⟨a.cells_len, a.scalars0⟩) (rd_val n) h
  have hw : Val.wtL l < 2 ^ 40 := by
    rcases hq with ⟨_, rfl⟩ | ⟨ds, rest, hy, hlen, hQ⟩
    · show 0 < 2 ^ 40; decide
    · rw [hy] at hb
      have := sum_bulk Val.wt l ds hlen fun i h1 h2 => (hQ i h1 h2).2
      rw [← wtL_sum] at this
      simp only [Go.Proofs.YtnkfojenfnbchaaGreatDoor.Rows.uptoBulk] at hb
      omega
  have hl := Val.len_wtL l
  refine ⟨l, v, e3, hR, (Val.limL_iff _).2 fun x hx => ?_, by omega⟩
  have hxw := Val.wtL_mem hx
  rcases hq with ⟨_, rfl⟩ | ⟨ds, rest, hy, hlen, hQ⟩
  · cases hx
  · obtain ⟨i, hi, rfl⟩ := List.getElem_of_mem hx
    exact lim_of (hQ i hi (by rw [hlen]; exact hi)).1 (by omega)
theorem c25 : Go.Proofs.Tryz.prog.cellsOf 25 = 2 := by kernel_rfl
theorem c27 : Go.Proofs.Tryz.prog.cellsOf 27 = 4 := by kernel_rfl
theorem bulk_mem {d : DataW H} {l : List (DataW H)} (h : d ∈ l) : Go.Proofs.YtnkfojenfnbchaaGreatDoor.Rows.uptoBulk d ≤ Go.Proofs.YtnkfojenfnbchaaGreatDoor.Rows.uptoBulkAll l := by
  induction l with
  | nil => cases h
  | cons x r ih =>
    simp only [Go.Proofs.YtnkfojenfnbchaaGreatDoor.Rows.uptoBulkAll]
    rcases List.mem_cons.1 h with rfl | e
    · omega
    · have := ih e; omega
theorem rd_mdl {n : Nat} {cs : List Value} {x : DataW H × List MemPlace} (h : DataW.trod enc Go.Proofs.Tryz.prog W 0 sp held n 25 cs = some x) (hb : Go.Proofs.YtnkfojenfnbchaaGreatDoor.Rows.uptoBulk x.1 < 2 ^ 40) :
    ∃ (m : Mdl) (v0 v1 : Value), cs = [v0, v1] ∧ R (imW W) Mu.bot m.V (.agg #[v0, v1]) ∧ m.sm ∧ Val.limL m.consts := by
  obtain ⟨xs, n1, rfl, rfl, hl, hxl, hf⟩ := DataW.trod_struct Go.Proofs.Tryz.underlying25 h
  rw [c25] at hl
  have f0 : DataW.trod enc Go.Proofs.Tryz.prog W 0 sp held n1 22 ((cs.drop 0).take (Go.Proofs.Tryz.prog.cellsOf 22)) = xs[0]? := hf 0 _ rfl
  have f1 : DataW.trod enc Go.Proofs.Tryz.prog W 0 sp held n1 23 ((cs.drop 1).take (Go.Proofs.Tryz.prog.cellsOf 23)) = xs[1]? := hf 1 _ rfl
  rw [c22] at f0
  rw [c23] at f1
  match cs, hl, xs, hxl with
  | [v0, v1], _, [y0, y1], _ =>
  simp only [List.drop, List.take, List.getElem?_cons_zero, List.getElem?_cons_succ] at f0 f1
  simp only [List.map_cons, List.map_nil, Go.Proofs.YtnkfojenfnbchaaGreatDoor.Rows.uptoBulk, Go.Proofs.YtnkfojenfnbchaaGreatDoor.Rows.uptoBulkAll] at hb
  obtain ⟨l, v, e0, hR0, hlim, hlen⟩ := rd_vals f0 (by omega)
  injection e0 with e0; subst e0
  cases n1 with
  | zero => simp [DataW.trod] at f1
  | succ n2 =>
  obtain ⟨fl, v, e1, hR1, hq⟩ := rd_slice Fnc.cells QFnc Go.Proofs.Tryz.underlying23 c52 (by omega) (fun a => ⟨a.cells_len, a.scalars0⟩) (rd_fnc n2) f1
  injection e1 with e1; subst e1
  refine ⟨⟨l, fl⟩, _, _, rfl, .agg _ _ rfl fun j u hj => ?_, ⟨hlen, ?_, fun f hf => ?_⟩, hlim⟩
  · match j, hj with
    | 0, hj => injection hj with hj; subst hj; exact hR0
    | 1, hj => injection hj with hj; subst hj; exact hR1
    | j + 2, hj => simp at hj
  · rcases hq with ⟨_, rfl⟩ | ⟨ds, rest, hy, hlen, hQ⟩
    · show 0 < 2 ^ 40; decide
    · have := sum_bulk (fun _ => 1) fl ds hlen fun i h1 h2 => bulk_pos _
      rw [sum_ones] at this
      rw [hy] at hb
      simp only [Go.Proofs.YtnkfojenfnbchaaGreatDoor.Rows.uptoBulk] at hb
      show fl.length < 2 ^ 40
      omega
  · rcases hq with ⟨_, rfl⟩ | ⟨ds, rest, hy, hlen, hQ⟩
    · cases hf
    · have hf : f ∈ fl := hf
      obtain ⟨i, hi, rfl⟩ := List.getElem_of_mem hf
      have h1 := hQ i hi (by rw [hlen]; exact hi)
      have h2 := bulk_mem (List.getElem_mem (show i < ds.length by rw [hlen]; exact hi))
      have h3 : fl[i].code.length ≤ Go.Proofs.YtnkfojenfnbchaaGreatDoor.Rows.uptoBulk ds[i] := h1
      rw [hy] at hb
      simp only [Go.Proofs.YtnkfojenfnbchaaGreatDoor.Rows.uptoBulk] at hb
      show fl[i].code.length < 2 ^ 40
      omega
theorem rd_from {n : Nat} {cs : List Value} {x : DataW H × List MemPlace} (h : DataW.trod enc Go.Proofs.Tryz.prog W 0 sp held n 27 cs = some x) (hb : Go.Proofs.YtnkfojenfnbchaaGreatDoor.Rows.uptoBulk x.1 < 2 ^ 40) :
    ∃ (a b : List Val) (k f : Int) (v0 v1 v2 v3 : Value), cs = [v0, v1, v2, v3] ∧ R (imW W) Mu.bot (.agg [valsV a, valsV b, vI k, vI f]) (.agg #[v0, v1, v2, v3]) ∧ Val.limL a ∧ Val.limL b ∧ a.length < 2 ^ 40 ∧ b.length < 2 ^ 40 := by
  obtain ⟨xs, n1, rfl, rfl, hl, hxl, hf⟩ := DataW.trod_struct Go.Proofs.Tryz.underlying27 h
  rw [c27] at hl
  have f0 : DataW.trod enc Go.Proofs.Tryz.prog W 0 sp held n1 22 ((cs.drop 0).take (Go.Proofs.Tryz.prog.cellsOf 22)) = xs[0]? := hf 0 _ rfl
  have f1 : DataW.trod enc Go.Proofs.Tryz.prog W 0 sp held n1 22 ((cs.drop 1).take (Go.Proofs.Tryz.prog.cellsOf 22)) = xs[1]? := hf 1 _ rfl
  have f2 : DataW.trod enc Go.Proofs.Tryz.prog W 0 sp held n1 3 ((cs.drop 2).take (Go.Proofs.Tryz.prog.cellsOf 3)) = xs[2]? := hf 2 _ rfl
  have f3 : DataW.trod enc Go.Proofs.Tryz.prog W 0 sp held n1 3 ((cs.drop 3).take (Go.Proofs.Tryz.prog.cellsOf 3)) = xs[3]? := hf 3 _ rfl
  rw [c22] at f0 f1
  rw [c3] at f2 f3
  match cs, hl, xs, hxl with
  | [v0, v1, v2, v3], _, [y0, y1, y2, y3], _ =>
  simp only [List.drop, List.take, List.getElem?_cons_zero, List.getElem?_cons_succ] at f0 f1 f2 f3
  simp only [List.map_cons, List.map_nil, Go.Proofs.YtnkfojenfnbchaaGreatDoor.Rows.uptoBulk, Go.Proofs.YtnkfojenfnbchaaGreatDoor.Rows.uptoBulkAll] at hb
  obtain ⟨a, v, e0, hR0, hl0, hn0⟩ := rd_vals f0 (by omega)
  obtain ⟨b, v', e1, hR1, hl1, hn1⟩ := rd_vals f1 (by omega)
  obtain ⟨k, e2, rfl, w2⟩ := DataW.trod_int Go.Proofs.Tryz.underlying3 f2
  obtain ⟨f, e3, rfl, w3⟩ := DataW.trod_int Go.Proofs.Tryz.underlying3 f3
  injection e0 with e0; injection e1 with e1; injection e2 with e2; injection e3 with e3
  subst e0 e1 e2 e3
  refine ⟨a, b, k, f, _, _, _, _, rfl, .agg _ _ rfl fun j u hj => ?_, hl0, hl1, hn0, hn1⟩
  match j, hj with
  | 0, hj => injection hj with hj; subst hj; exact hR0
  | 1, hj => injection hj with hj; subst hj; exact hR1
  | 2, hj => injection hj with hj; subst hj; exact .c _
  | 3, hj => injection hj with hj; subst hj; exact .c _
  | j + 4, hj => simp at hj
theorem wd_imW (hl : ∀ p ∈ laidT, imW W p.1 = some p.2) : Wd (imW W) Mu.bot (hpE 0 []) W := by
  refine ⟨fun i o h => absurd h (by simp [hpE]), fun i j oi oj bi bj h => absurd h (by simp [hpE]), fun b cs h => ?_, hl⟩
  unfold imW at h
  split at h
  · rename_i c t f hb
    injection h with h; subst h
    exact ⟨t, f, hb⟩
  · cases h
end
end Go.Am
end

section
namespace Go.Am
theorem cmpI_neg (a b : Int) : cmpI a b = -cmpI b a := by unfold cmpI; repeat' split <;> omega
theorem cmpI_lt (a b : Int) : cmpI a b < 0 ↔ a < b := by unfold cmpI; repeat' split <;> omega
theorem cmpB_neg : ∀ a b : List UInt8, Lib.compareBytes a b = -Lib.compareBytes b a
  | [], [] => by simp [Lib.compareBytes]
  | [], _ :: _ => by simp [Lib.compareBytes]
  | _ :: _, [] => by simp [Lib.compareBytes]
  | x :: xs, y :: ys => by
    have ih := cmpB_neg xs ys
    rw [Lib.compareBytes, Lib.compareBytes]
    simp only [UInt8.lt_iff_toNat_lt]
    (repeat' split) <;> omega
theorem cmpB_trans : ∀ a b c : List UInt8, Lib.compareBytes a b < 0 → Lib.compareBytes b c < 0 → Lib.compareBytes a c < 0
  | [], [], _, h, _ => by simp [Lib.compareBytes] at h
  | [], _ :: _, [], _, h => by simp [Lib.compareBytes] at h
  | [], _ :: _, _ :: _, _, _ => by simp [Lib.compareBytes]
  | _ :: _, [], _, h, _ => by simp [Lib.compareBytes] at h
  | _ :: _, _ :: _, [], _, h => by simp [Lib.compareBytes] at h
  | x :: xs, y :: ys, z :: zs, h, h' => by
    have ih := cmpB_trans xs ys zs
    rw [Lib.compareBytes] at h h' ⊢
    simp only [UInt8.lt_iff_toNat_lt] at h h' ⊢
    by_cases c1 : x.toNat < y.toNat
    · by_cases c3 : y.toNat < z.toNat
      · rw [if_pos (by omega)]; decide
      · rw [if_neg c3] at h'
        by_cases c4 : z.toNat < y.toNat
        · rw [if_pos c4] at h'; omega
        · rw [if_pos (by omega)]; decide
    · rw [if_neg c1] at h
      by_cases c2 : y.toNat < x.toNat
      · rw [if_pos c2] at h; omega
      · rw [if_neg c2] at h
        by_cases c3 : y.toNat < z.toNat
        · rw [if_pos (by omega)]; decide
        · rw [if_neg c3] at h'
          by_cases c4 : z.toNat < y.toNat
          · rw [if_pos c4] at h'; omega
          · rw [if_neg c4] at h'
            rw [if_neg (by omega), if_neg (by omega)]; exact ih h h'
theorem cmpLF_neg (f : Val → Val → Int) : ∀ a b : List Val, (∀ x ∈ a, ∀ y ∈ b, f x y = -f y x) → cmpLF f a b = -cmpLF f b a
  | [], [], _ => by simp [cmpLF]
  | [], _ :: _, _ => by simp [cmpLF]
  | _ :: _, [], _ => by simp [cmpLF]
  | x :: xs, y :: ys, h => by
    have h0 := h x (by simp) y (by simp)
    have ih := cmpLF_neg f xs ys fun a ha b hb => h a (by simp [ha]) b (by simp [hb])
    rw [cmpLF, cmpLF]
    by_cases e : f y x = 0
    · simp [h0, e, ih]
    · have : f x y ≠ 0 := by omega
      simp [this, e]; omega
theorem cmpLF_trans (f : Val → Val → Int) (hz : ∀ x y, f x y = 0 → x = y) : ∀ a b c : List Val, (∀ x ∈ a, ∀ y z, f x y < 0 → f y z < 0 → f x z < 0) → cmpLF f a b < 0 → cmpLF f b c < 0 → cmpLF f a c < 0
  | [], [], _, _, h, _ => by simp [cmpLF] at h
  | [], _ :: _, [], _, _, h => by simp [cmpLF] at h
  | [], _ :: _, _ :: _, _, _, _ => by simp [cmpLF]
  | _ :: _, [], _, _, h, _ => by simp [cmpLF] at h
  | _ :: _, _ :: _, [], _, _, h => by simp [cmpLF] at h
  | x :: xs, y :: ys, z :: zs, ht, h, h' => by
    have ih := cmpLF_trans f hz xs ys zs fun a ha => ht a (by simp [ha])
    have h0 := ht x (by simp) y z
    rw [cmpLF] at h h' ⊢
    by_cases e1 : f x y = 0
    · have := hz _ _ e1; subst this
      rw [if_neg (by simpa using e1)] at h
      by_cases e2 : f x z = 0
      · rw [if_neg (by simpa using e2)] at h' ⊢; exact ih h h'
      · rw [if_pos e2] at h' ⊢; exact h'
    · rw [if_pos e1] at h
      by_cases e2 : f y z = 0
      · have := hz _ _ e2; subst this
        rw [if_pos e1]; exact h
      · rw [if_pos e2] at h'
        have := h0 h h'
        rw [if_pos (by omega)]; exact this
theorem orI4_neg (a b c d : Int) : orI [-a, -b, -c, -d] = -orI [a, b, c, d] := by
  simp only [orI]; repeat' split <;> omega
theorem Val.cmp_neg (v : Val) : ∀ u : Val, v.cmp u = -u.cmp v := by
  induction v using Val.induct with
  | h v ih =>
  intro u
  rw [Val.cmp_eq, Val.cmp_eq, Val.cmpL_eq, Val.cmpL_eq, ← orI4_neg, cmpI_neg v.kind, cmpI_neg v.num, cmpB_neg v.text.data.toList, cmpLF_neg _ v.list u.list fun x hx y _ => ih x hx y]
theorem orI4_lt (a b c d : Int) : orI [a, b, c, d] < 0 ↔ a < 0 ∨ a = 0 ∧ (b < 0 ∨ b = 0 ∧ (c < 0 ∨ c = 0 ∧ d < 0)) := by
  simp only [orI]; repeat' split <;> omega
theorem cmpB_zero {a b : ByteArray} : Lib.compareBytes a.data.toList b.data.toList = 0 ↔ a = b := by
  rw [cmpS]
  by_cases h : a = b
  · simp [h]
  · by_cases h2 : ltS a b <;> simp [h, h2]
theorem Val.cmp_trans (v : Val) : ∀ u w : Val, v.cmp u < 0 → u.cmp w < 0 → v.cmp w < 0 := by
  induction v using Val.induct with
  | h v ih =>
  intro u w h h'
  have hl := cmpLF_trans Val.cmp (fun x y => (Val.cmp_zero x y).1) v.list u.list w.list ih
  have hb := cmpB_trans v.text.data.toList u.text.data.toList w.text.data.toList
  rw [Val.cmp_eq, Val.cmpL_eq, orI4_lt] at h h' ⊢
  simp only [cmpI_lt, cmpI_zero] at h h' ⊢
  rcases h with h | ⟨h1, h⟩
  · rcases h' with h' | ⟨h1', h'⟩
    · exact .inl (by omega)
    · exact .inl (by omega)
  rcases h' with h' | ⟨h1', h'⟩
  · exact .inl (by omega)
  refine .inr ⟨by omega, ?_⟩
  rcases h with h | ⟨h2, h⟩
  · rcases h' with h' | ⟨h2', h'⟩
    · exact .inl (by omega)
    · exact .inl (by omega)
  rcases h' with h' | ⟨h2', h'⟩
  · exact .inl (by omega)
  refine .inr ⟨by omega, ?_⟩
  rcases h with h | ⟨h3, h⟩
  · rcases h' with h' | ⟨h3', h'⟩
    · exact .inl (hb h h')
    · rw [cmpB_zero] at h3'; rw [← h3']; exact .inl h
  rw [cmpB_zero] at h3
  rw [h3]
  rcases h' with h' | ⟨h3', h'⟩
  · exact .inl h'
  · exact .inr ⟨h3', hl h h'⟩
def hdLt (a : Val) : List Val → Bool
  | [] => true
  | z :: _ => decide (a.cmp z < 0)
theorem rise_cons (a b : Val) (l : List Val) : rise (a :: b :: l) = (hdLt a l && rise l) := by
  cases l <;> simp [rise, hdLt]
theorem findL_shift (k : Val) : ∀ (l : List Val) (i : Nat), findL k l i = (i + (findL k l 0).1, (findL k l 0).2)
  | [], i => by simp [findL]
  | [_], i => by simp [findL]
  | x :: y :: l, i => by
    rw [findL, findL]
    by_cases h : x.cmp k ≥ 0
    · simp [h]
    · rw [if_neg h, if_neg h, findL_shift k l (i + 2), findL_shift k l (0 + 2)]
      simp; omega
theorem hdLt_ins (a k x : Val) : ∀ (l : List Val) (j : Nat), hdLt a l = true → a.cmp k < 0 → hdLt a (l.take j ++ k :: x :: l.drop j) = true
  | [], j, _, h => by simp [hdLt, h]
  | c :: l, 0, _, h => by simp [hdLt, h]
  | c :: l, j + 1, hc, _ => by simpa [hdLt] using hc
theorem rise_ins (k x : Val) : ∀ (l : List Val), rise l = true → l.length % 2 = 0 → (findL k l 0).2 = false → rise (l.take (findL k l 0).1 ++ k :: x :: l.drop (findL k l 0).1) = true
  | [], _, _, _ => by simp [findL, rise]
  | [_], _, h, _ => by simp at h
  | a :: b :: l, hr, he, hf => by
    rw [rise_cons, Bool.and_eq_true] at hr
    rw [findL] at hf ⊢
    by_cases h : a.cmp k ≥ 0
    · rw [if_pos h] at hf ⊢
      simp only at hf
      have hne : a.cmp k ≠ 0 := by simpa using hf
      have hn := Val.cmp_neg k a
      simp only [List.take_zero, List.drop_zero, List.nil_append]
      rw [rise_cons, rise_cons]
      have hlt : k.cmp a < 0 := by omega
      have h2 : hdLt k (a :: b :: l) = true := by simp [hdLt, hlt]
      rw [h2, hr.1, hr.2]; rfl
    · rw [if_neg h] at hf ⊢
      rw [findL_shift k l (0 + 2)] at hf ⊢
      have ih := rise_ins k x l hr.2 (by simp at he; omega) hf
      simp only [Nat.zero_add, show 2 + (findL k l 0).1 = (findL k l 0).1 + 1 + 1 by omega, List.take_succ_cons, List.drop_succ_cons, List.cons_append]
      rw [rise_cons, ih, hdLt_ins a k x l _ hr.1 (by omega)]; rfl
theorem hdLt_del (a : Val) : ∀ (l : List Val) (j : Nat), hdLt a l = true → rise l = true → l.length % 2 = 0 → hdLt a (l.take j ++ l.drop (j + 2)) = true
  | [], j, _, _, _ => by simp [hdLt]
  | [_], j, _, _, h => by simp at h
  | c :: d :: l, 0, hc, hr, _ => by
    rw [rise_cons, Bool.and_eq_true] at hr
    simp [hdLt] at hc
    simp
    cases l with
    | nil => rfl
    | cons e l => simp [hdLt] at hr ⊢; exact Val.cmp_trans _ _ _ hc hr.1
  | c :: d :: l, j + 1, hc, _, _ => by simpa [hdLt] using hc
theorem rise_del (k : Val) : ∀ (l : List Val), rise l = true → l.length % 2 = 0 → (findL k l 0).2 = true → rise (l.take (findL k l 0).1 ++ l.drop ((findL k l 0).1 + 2)) = true
  | [], _, _, h => by simp [findL] at h
  | [_], _, h, _ => by simp at h
  | a :: b :: l, hr, he, hf => by
    have hr0 := hr
    rw [rise_cons, Bool.and_eq_true] at hr
    rw [findL] at hf ⊢
    by_cases h : a.cmp k ≥ 0
    · rw [if_pos h]
      simpa using hr.2
    · rw [if_neg h] at hf ⊢
      rw [findL_shift k l (0 + 2)] at hf ⊢
      have ih := rise_del k l hr.2 (by simp at he; omega) hf
      simp only [Nat.zero_add, show 2 + (findL k l 0).1 = (findL k l 0).1 + 1 + 1 by omega, show (findL k l 0).1 + 1 + 1 + 2 = (findL k l 0).1 + 2 + 1 + 1 by omega, List.take_succ_cons, List.drop_succ_cons, List.cons_append]
      rw [rise_cons, ih, hdLt_del a l _ hr.1 hr.2 (by simp at he; omega)]; rfl
theorem rise_set (k x : Val) : ∀ (l : List Val), rise l = true → (findL k l 0).2 = true → rise (l.set ((findL k l 0).1 + 1) x) = true
  | [], _, h => by simp [findL] at h
  | [_], _, h => by simp [findL] at h
  | a :: b :: l, hr, hf => by
    rw [rise_cons, Bool.and_eq_true] at hr
    rw [findL] at hf ⊢
    by_cases h : a.cmp k ≥ 0
    · rw [if_pos h]
      simp only [Nat.zero_add, List.set_cons_succ, List.set_cons_zero]
      rw [rise_cons, hr.1, hr.2]; rfl
    · rw [if_neg h] at hf ⊢
      rw [findL_shift k l (0 + 2)] at hf ⊢
      have ih := rise_set k x l hr.2 hf
      simp only [Nat.zero_add, show 2 + (findL k l 0).1 + 1 = (findL k l 0).1 + 1 + 1 + 1 by omega, List.set_cons_succ]
      rw [rise_cons, ih]
      have : hdLt a (l.set ((findL k l 0).1 + 1) x) = hdLt a l := by cases l <;> simp [hdLt]
      rw [this, hr.1]; rfl
end Go.Am
end

section
namespace Go.Am
theorem snd_int (n : Int) : (Val.int n).sound = true := by simp [Val.sound_eq, Val.int, Val.kind, Val.text, Val.list]
theorem snd_bool (b : Bool) : (Val.bool b).sound = true := by cases b <;> simp [Val.sound_eq, Val.bool, Val.kind, Val.num, Val.text, Val.list]
theorem snd_str {s : ByteArray} (h : s.size ≤ 256) : (Val.str s).sound = true := by simp [Val.sound_eq, Val.str, Val.kind, Val.num, Val.text, Val.list, h]
theorem snd_elem {v x : Val} (h : v.sound = true) (hx : x ∈ v.list) : x.sound = true := by
  rw [Val.sound_eq] at h
  have nil : v.list.length = 0 → False := fun e => by rw [List.length_eq_zero_iff] at e; rw [e] at hx; cases hx
  repeat' split at h
  all_goals try simp only [Bool.and_eq_true, decide_eq_true_eq, List.all_eq_true] at h
  · exact (nil h.2).elim
  · exact (nil h.1.2).elim
  · exact (nil h.1.2).elim
  · exact h.1.2 x hx
  · exact h.1.2 x hx
  · cases h
theorem snd_list {v : Val} (h : v.sound = true) (hk : v.kind = 4) : v.num = 0 ∧ v.text = noS ∧ (∀ x ∈ v.list, x.sound = true) ∧ v.list.length ≤ 64 := by
  rw [Val.sound_eq] at h
  simp [hk] at h
  exact ⟨h.1.1.1, h.1.1.2, h.1.2, h.2⟩
theorem snd_list_of {v : Val} (hk : v.kind = 4) (h1 : v.num = 0) (h2 : v.text = noS) (h3 : ∀ x ∈ v.list, x.sound = true) (h4 : v.list.length ≤ 64) : v.sound = true := by
  rw [Val.sound_eq]
  simp [hk, h1, h2, h4]
  exact h3
theorem snd_map {v : Val} (h : v.sound = true) (hk : v.kind = 5) : v.num = 0 ∧ v.text = noS ∧ (∀ x ∈ v.list, x.sound = true) ∧ rise v.list = true ∧ v.list.length % 2 = 0 ∧ v.list.length ≤ 128 := by
  rw [Val.sound_eq] at h
  simp [hk] at h
  exact ⟨h.1.1.1, h.1.1.2, h.1.2, h.2.1.1, h.2.1.2, h.2.2⟩
theorem snd_map_of {v : Val} (hk : v.kind = 5) (h1 : v.num = 0) (h2 : v.text = noS) (h3 : ∀ x ∈ v.list, x.sound = true) (h4 : rise v.list = true) (h5 : v.list.length % 2 = 0) (h6 : v.list.length ≤ 128) : v.sound = true := by
  rw [Val.sound_eq]
  simp [hk, h1, h2, h4, h5, h6]
  exact h3
theorem snd_bounded {v : Val} (h : v.sound = true) (h0 : (bounded v).2 = 0) : (bounded v).1.sound = true := by
  unfold bounded at h0 ⊢
  split
  · rename_i hc; rw [if_pos hc] at h0; cases h0
  · exact h
theorem snd_neg {v : Val} (h0 : v.neg.2 = 0) : v.neg.1.sound = true := by
  unfold Val.neg at h0 ⊢
  split
  · rename_i hc; rw [if_pos hc] at h0; cases h0
  rename_i hc; rw [if_neg hc] at h0
  split
  · rename_i hc; rw [if_pos hc] at h0; cases h0
  · exact snd_int _
theorem snd_bin {op : Int} {a b : Val} (h0 : (Val.bin op a b).2 = 0) : (Val.bin op a b).1.sound = true := by
  unfold Val.bin at h0 ⊢
  by_cases c1 : op = 3
  · rw [if_pos c1]; exact snd_bool _
  rw [if_neg c1] at h0 ⊢
  by_cases c2 : op = 4
  · rw [if_pos c2]; exact snd_bool _
  rw [if_neg c2] at h0 ⊢
  by_cases c3 : a.kind ≠ b.kind ∨ (a.kind ≠ 1 ∧ a.kind ≠ 3)
  · rw [if_pos c3] at h0; cases h0
  rw [if_neg c3] at h0 ⊢
  by_cases c4 : 5 ≤ op ∧ op ≤ 8
  · rw [if_pos c4]; exact snd_bool _
  rw [if_neg c4] at h0 ⊢
  by_cases c5 : a.kind = 3 ∧ op = 9
  · rw [if_pos c5] at h0 ⊢
    by_cases c6 : (a.text.size : Int) + b.text.size > 256
    · rw [if_pos c6] at h0; cases h0
    · rw [if_neg c6]; exact snd_str (by rw [ByteArray.size_append]; omega)
  rw [if_neg c5] at h0 ⊢
  by_cases c6 : a.kind = 3 ∨ op < 9 ∨ 13 < op
  · rw [if_pos c6] at h0; cases h0
  rw [if_neg c6] at h0 ⊢
  by_cases c7 : (arith op a.num b.num).2 ≠ 0
  · rw [if_pos c7] at h0; exact absurd h0 c7
  · rw [if_neg c7]; exact snd_int _
theorem snd_at {v k : Val} (hv : v.sound = true) (h0 : (v.at k).2 = 0) : (v.at k).1.sound = true := by
  have get : ∀ i, i < v.list.length → (v.list.getD i Val.zero).sound = true := fun i hi => by
    rw [List.getD_eq_getElem?_getD, List.getElem?_eq_getElem hi]; exact snd_elem hv (List.getElem_mem hi)
  unfold Val.at at h0 ⊢
  by_cases c1 : v.kind = 4 ∧ k.kind = 1
  · rw [if_pos c1] at h0 ⊢
    by_cases c2 : k.num < 0 ∨ (v.list.length : Int) ≤ k.num
    · rw [if_pos c2] at h0; cases h0
    · rw [if_neg c2]; exact get _ (by omega)
  rw [if_neg c1] at h0 ⊢
  by_cases c2 : v.kind = 5
  · rw [if_pos c2] at h0 ⊢
    by_cases c3 : (findL k v.list 0).2 = true
    · rw [if_pos c3]; exact get _ (by have := (findL_lt k v.list 0).2 c3; omega)
    · rw [if_neg c3] at h0; cases h0
  · rw [if_neg c2] at h0; cases h0
theorem snd_push {v x : Val} (hv : v.sound = true) (hx : x.sound = true) (h0 : (v.push x).2 = 0) : (v.push x).1.sound = true := by
  unfold Val.push at h0 ⊢
  by_cases c1 : v.kind = 4
  · rw [if_pos c1] at h0 ⊢
    by_cases c2 : (v.list.length : Int) ≥ 64
    · rw [if_pos c2] at h0; cases h0
    · rw [if_neg c2] at h0 ⊢
      obtain ⟨h1, h2, h3, h4⟩ := snd_list hv c1
      refine snd_bounded (snd_list_of c1 h1 h2 (fun y hy => ?_) (by rw [Val.list_mk]; simp; omega)) h0
      rw [Val.list_mk] at hy
      simp at hy
      rcases hy with hy | rfl
      · exact h3 y hy
      · exact hx
  · rw [if_neg c1] at h0; cases h0
theorem snd_put {v k x : Val} (hv : v.sound = true) (hk : k.sound = true) (hx : x.sound = true) (h0 : (v.put k x).2 = 0) : (v.put k x).1.sound = true := by
  have hset : ∀ i, (∀ x ∈ v.list, x.sound = true) → ∀ y ∈ v.list.set i x, y.sound = true := fun i h y hy => by
    rcases List.mem_or_eq_of_mem_set hy with h' | rfl
    · exact h y h'
    · exact hx
  unfold Val.put at h0 ⊢
  by_cases c1 : v.kind = 4 ∧ k.kind = 1
  · rw [if_pos c1] at h0 ⊢
    by_cases c2 : k.num < 0 ∨ (v.list.length : Int) ≤ k.num
    · rw [if_pos c2] at h0; cases h0
    · rw [if_neg c2] at h0 ⊢
      obtain ⟨h1, h2, h3, h4⟩ := snd_list hv c1.1
      exact snd_bounded (snd_list_of c1.1 h1 h2 (hset _ h3) (by rw [Val.list_mk]; simpa using h4)) h0
  rw [if_neg c1] at h0 ⊢
  by_cases c2 : v.kind = 5
  · rw [if_pos c2] at h0 ⊢
    obtain ⟨h1, h2, h3, h4, h5, h6⟩ := snd_map hv c2
    by_cases c3 : (findL k v.list 0).2 = true
    · rw [if_pos c3] at h0 ⊢
      exact snd_bounded (snd_map_of c2 h1 h2 (hset _ h3) (rise_set k x _ h4 c3) (by rw [Val.list_mk]; simpa using h5) (by rw [Val.list_mk]; simpa using h6)) h0
    · rw [if_neg c3] at h0 ⊢
      by_cases c4 : (v.list.length : Int) ≥ 128
      · rw [if_pos c4] at h0; cases h0
      · rw [if_neg c4] at h0 ⊢
        have hle := (findL_lt k v.list 0).1
        have hlen : (v.list.take (findL k v.list 0).1 ++ (k :: x :: v.list.drop (findL k v.list 0).1)).length = v.list.length + 2 := by simp; omega
        refine snd_bounded (snd_map_of c2 h1 h2 (fun y hy => ?_) (rise_ins k x _ h4 h5 (by simpa using c3)) (by rw [Val.list_mk, hlen]; omega) (by rw [Val.list_mk, hlen]; omega)) h0
        rw [Val.list_mk] at hy
        simp only [List.mem_append, List.mem_cons] at hy
        rcases hy with h | rfl | rfl | h
        · exact h3 y (List.mem_of_mem_take h)
        · exact hk
        · exact hx
        · exact h3 y (List.mem_of_mem_drop h)
  · rw [if_neg c2] at h0; cases h0
theorem snd_del {v k : Val} (hv : v.sound = true) (h0 : (v.del k).2 = 0) : (v.del k).1.sound = true := by
  unfold Val.del at h0 ⊢
  by_cases c2 : v.kind = 5
  · rw [if_pos c2] at h0 ⊢
    obtain ⟨h1, h2, h3, h4, h5, h6⟩ := snd_map hv c2
    by_cases c3 : (findL k v.list 0).2 = true
    · have hlt := (findL_lt k v.list 0).2 c3
      have hlen : (v.list.take (findL k v.list 0).1 ++ v.list.drop ((findL k v.list 0).1 + 2)).length = v.list.length - 2 := by simp; omega
      simp only [c3, if_true]
      refine snd_map_of c2 h1 h2 (fun y hy => ?_) (rise_del k _ h4 h5 c3) (by rw [Val.list_mk, hlen]; omega) (by rw [Val.list_mk, hlen]; omega)
      rw [Val.list_mk] at hy
      simp only [List.mem_append] at hy
      rcases hy with h | h
      · exact h3 y (List.mem_of_mem_take h)
      · exact h3 y (List.mem_of_mem_drop h)
    · simp only [c3]; exact hv
  · rw [if_neg c2] at h0; cases h0
theorem itoaB_256 {n : Int} (h1 : -9223372036854775808 ≤ n) (h2 : n < 9223372036854775808) : (itoaB n).size ≤ 256 := by
  show (Lib.itoa n).toArray.size ≤ 256
  unfold Lib.itoa
  split
  · have := dd_len 19 n.natAbs (by omega)
    simp; omega
  · have := dd_len 19 n.toNat (by omega)
    simp; omega
theorem snd_strv {v : Val} (hv : v.ok) (h0 : v.strv.2 = 0) : v.strv.1.sound = true := by
  unfold Val.strv at h0 ⊢
  by_cases c : v.kind ≠ 1
  · rw [if_pos c] at h0; cases h0
  · rw [if_neg c]; exact snd_str (itoaB_256 hv.num.1 hv.num.2)
theorem mk1_snd {op a : Int} {vs : List Val} {r : Val × Int} (h : mk1 op a vs = some r) (h0 : r.2 = 0) (hv : ∀ v ∈ vs, v.ok ∧ v.sound = true) : r.1.sound = true := by
  match vs, h, hv with
  | [], h, _ => cases h
  | [x], h, hv =>
    have hx := hv x (by simp)
    unfold mk1 at h; simp only at h
    repeat' split at h
    all_goals first
      | (injection h with h; subst h; first | exact snd_neg h0 | exact snd_bool _ | exact snd_int _ | exact snd_strv hx.1 h0 | (simp at h0; done))
      | cases h
  | [x, y], h, hv =>
    have hx := hv x (by simp)
    have hy := hv y (by simp)
    unfold mk1 at h; simp only at h
    repeat' split at h
    all_goals first
      | (injection h with h; subst h; first | exact snd_bin h0 | exact snd_bool _ | exact snd_at hx.2 h0 | exact snd_push hx.2 hy.2 h0 | exact snd_del hx.2 h0)
      | cases h
  | [x, y, z], h, hv =>
    have hx := hv x (by simp)
    have hy := hv y (by simp)
    have hz := hv z (by simp)
    unfold mk1 at h; simp only at h
    repeat' split at h
    all_goals first
      | (injection h with h; subst h; exact snd_put hx.2 hy.2 hz.2 h0)
      | cases h
  | _ :: _ :: _ :: _ :: _, h, _ => cases h
def Val.good (v : Val) : Prop := v.ok ∧ v.sound = true
theorem keeps_good : Keeps Val.good := ⟨fun v h => keeps_ok.ok v h.1, ⟨keeps_ok.int0, snd_int 0⟩, fun op a vs r h h0 hv => ⟨mk1_ok h fun v hm => (hv v hm).1, mk1_snd h h0 hv⟩⟩
theorem snd_const {v : Val} (h : v.tyc ≠ []) : v.sound = true := by
  unfold Val.tyc at h
  by_cases c : v.list = [] ∧ v.wt ≤ 16384
  case neg => rw [if_neg c] at h; exact absurd rfl h
  rw [if_pos c] at h
  cases hf : tyK.find? v.fitK with
  | none => rw [hf] at h; exact absurd rfl h
  | some t =>
    have h1 := List.find?_some hf
    have h2 := List.mem_of_find?_eq_some hf
    have hn : (litS [] : ByteArray) = noS := rfl
    simp [tyK] at h2
    rw [Val.sound_eq]
    rcases h2 with rfl | rfl | rfl | rfl | rfl <;> simp [Val.fitK, hn] at h1 <;> simp [h1, c.1, rise] <;> omega
end Go.Am
end
