/- VmRuns of the given program, part 6 of 6 of the proof: for all arguments within the bound the law answers true, and each argument reads behind the call as before. Conditions: those of the given card. -/
import Derived.Test.YtnkfojenfnbchaaGreatDoorZ5
import Derived.Test.YtnkfojenfnbchaaGreatDoorTie
import Derived.WalkKit
import Derived.OpenShut
import Derived.Deep.DeepHandedRow
import Derived.Test.YtnkfojenfnbchaaGreatDoorCards
set_option linter.all false
set_option linter.unusedVariables false
set_option linter.unusedSimpArgs false
set_option linter.unnecessarySimpa false
section
namespace Go.Am
set_option maxRecDepth 100000
attribute [local irreducible] vc vcIs vcI vcOp vcD vcDp vcDR vcT vcAR bp0 aK0 panD neG ne pv J bm0 bl0 bt0 aS0 evK evsK nthK objK boxK rowK bg0 intK strK aggK fnK ifcK aw0 at0 ldK ldaK iaK srcK stK appK appD bv0 pvK br0 aF0 bk0
abbrev nu0 (l : List Bool) : List (List V) := l.map fun x => [vB x]
set_option maxHeartbeats 40000000 in
theorem nn0 (m : Mdl) (n : Nat) (hn : n < m.funcs.length) (h0 : 0 < m.funcs[n].code.length) (h1 : m.funcs[n].code.length <= 16384) (hc0 : 0 <= m.funcs[n].stack) (hc1 : m.funcs[n].stack <= 256)
  (hp : ∀ i ∈ m.funcs[n].code, 0 <= m.pops i /\ m.pops i <= 8 /\ (i.op = 9 -> 0 <= i.a /\ i.a.toNat < m.funcs.length) /\ (i.op = 7 \/ i.op = 8 -> 0 <= i.a)) :
  Ret prog gS0 [m.V, vI n] (vB (m.gr m.funcs[n]).hB) := by
 rw [<- gr2_hB]
 refine af0 kI0 (by simp) ?_
 simp +contextual (maxSteps := 2000000) (disch := omega) [-Int.not_lt, -Int.not_le, -Nat.not_lt, -Nat.not_le, sx, fK0]
 generalize hf : m.funcs[n] = f at *
 have hg : (m.gr2 f).len = f.code.length := rfl
 have hpu : ∀ p, 0 <= (m.gr2 f).ax0 p := fun p => by simp only [Mdl.gr2, Ins.ax0]; split <;> omega
 refine aA0 f.code.length (fun i => [(27, vI i), (26, vI f.code.length), (6, .arr (.l 24 0) 0 f.code.length), (2, .bp (.l 2 0) 0), (5, .bp (.l 5 0) 0)])
  (fun i => [(.l 24 0, .row 3 1 true (List.replicate i [vI (-1)] ++ List.replicate (f.code.length - i) [vI 0])), (.l 2 0, .box [.lst (m.consts.map Val.cells), .lst (m.funcs.map Fnc.cells)]), (.l 5 0, .box f.cells)])
  (Wk.subs (by simp) (by simp)) ?_
 intro i hi
 simp +contextual (maxSteps := 2000000) (disch := omega) [-Int.not_lt, -Int.not_le, -Nat.not_lt, -Nat.not_le, sx]
 refine ⟨fun hlt => ?_, fun hge => ?_⟩
 ·refine cR0 (e := [vI 0]) (by rw [List.getElem?_append_right (by simp)]; simp [List.getElem?_replicate]; omega) ?_
  simp +contextual (maxSteps := 2000000) (disch := omega) [-Int.not_lt, -Int.not_le, -Nat.not_lt, -Nat.not_le, sx]
  rw [mW0 _ _ _ _ hlt]
  exact .of hlt (Wk.subs (by simp) (by simp))
 have hi : i = f.code.length := by omega
 subst hi
 refine cR0 (e := [vI (-1)]) (by simp [List.getElem?_replicate, h0]) ?_
 simp +contextual (maxSteps := 2000000) (disch := omega) [-Int.not_lt, -Int.not_le, -Nat.not_lt, -Nat.not_le, sx]
 refine ap0 (fun x : List Int × List Bool × Bool => Gr.usn x.2.1 + (if x.2.2 then 1 else 0))
  (fun x => [(9, vB x.2.2), (6, .arr (.l 24 0) 0 x.1.length), (8, .arr (.l 39 0) 0 x.2.1.length), (2, .bp (.l 2 0) 0), (5, .bp (.l 5 0) 0)])
  (fun x => [(.l 24 0, .row 3 1 true (a30 x.1)), (.l 39 0, .row 4 1 true (nu0 x.2.1)), (.l 2 0, .box [.lst (m.consts.map Val.cells), .lst (m.funcs.map Fnc.cells)]), (.l 5 0, .box f.cells)])
  (fun x => Gr.SI (m.gr2 f) x.1 x.2.1 /\ (x.2.2 = false -> ∀ p, p < f.code.length -> Gr.kn x.1 p < 0 \/ Gr.sn x.2.1 p = true)) ((List.replicate f.code.length (-1)).set 0 0, List.replicate f.code.length false, true)
  ⟨Gr.SI.start h0 hc0, fun h => by cases h⟩
  (Wk.subs (by simp [a30, List.map_set]) (by simp [a30, nu0, List.map_set])) ?_
 rintro ⟨known, seen, again⟩ ⟨hI, hdone⟩
 cases again with
 | false => simp +contextual (maxSteps := 2000000) (disch := omega) [-Int.not_lt, -Int.not_le, -Nat.not_lt, -Nat.not_le, sx, hI.end (hdone rfl)]
 | true =>
 clear hdone
 have hkl := hI.klen
 have hsl := hI.len
 rw [hg] at hkl hsl
 simp +contextual (maxSteps := 2000000) (disch := omega) [-Int.not_lt, -Int.not_le, -Nat.not_lt, -Nat.not_le, sx]
 refine ap0 (fun y : Nat × List Int × List Bool × Bool => f.code.length - y.1)
  (fun y => [(44, vI y.1), (43, vI f.code.length), (42, .lst (f.code.map Ins.cells)), (9, vB y.2.2.2), (6, .arr (.l 24 0) 0 y.2.1.length), (8, .arr (.l 39 0) 0 y.2.2.1.length), (2, .bp (.l 2 0) 0), (5, .bp (.l 5 0) 0)])
  (fun y => [(.l 24 0, .row 3 1 true (a30 y.2.1)), (.l 39 0, .row 4 1 true (nu0 y.2.2.1)), (.l 2 0, .box [.lst (m.consts.map Val.cells), .lst (m.funcs.map Fnc.cells)]), (.l 5 0, .box f.cells)])
  (fun y => Gr.SI (m.gr2 f) y.2.1 y.2.2.1 /\ y.1 <= f.code.length /\ (y.2.2.2 = false -> ∀ p, p < y.1 -> Gr.kn y.2.1 p < 0 \/ Gr.sn y.2.2.1 p = true) /\ Gr.usn y.2.2.1 + (if y.2.2.2 then 1 else 0) <= Gr.usn seen) (0, known, seen, false)
  ⟨hI, Nat.zero_le _, fun _ p hp => by omega, by simp⟩
  (Wk.subs (by simp) (by simp)) ?_
 rintro ⟨x, kn1, sn1, ag1⟩ ⟨hI1, hx, hd1, hm1⟩
 simp only at hI1 hx hd1 hm1
 have hkl1 := hI1.klen
 have hsl1 := hI1.len
 rw [hg] at hkl1 hsl1
 simp +contextual (maxSteps := 2000000) (disch := omega) [-Int.not_lt, -Int.not_le, -Nat.not_lt, -Nat.not_le, sx]
 refine ⟨fun hxl => ?_, fun hge => ?_⟩
 rotate_left
 ·refine .of (kn1, sn1, ag1) ⟨hI1, fun h p hp => hd1 h p (by omega)⟩ ?_ (Wk.subs (by simp) (by simp))
  simp only
  cases ag1 <;> simp at hm1 ⊢ <;> omega
 have hxk : x < kn1.length := by omega
 have hxs : x < sn1.length := by omega
 have hk : Gr.kn kn1 x = kn1[x] := Gr.qQ0 hxk
 have hs : Gr.sn sn1 x = sn1[x] := Gr.sn_lt hxs
 by_cases hneg : kn1[x] < 0
 ·simp +contextual (maxSteps := 2000000) (disch := omega) [-Int.not_lt, -Int.not_le, -Nat.not_lt, -Nat.not_le, sx, hneg]
  exact .of (x + 1, kn1, sn1, ag1) ⟨hI1, by simp only; omega, fun h p hp => by
   have hp : p < x + 1 := hp
   by_cases e : p = x
   ·subst e; left; show Gr.kn kn1 p < 0; rw [hk]; exact hneg
   ·exact hd1 h p (by omega), hm1⟩ (by simp only; omega) (Wk.subs (by simp) (by simp))
 have hnn : 0 <= kn1[x] := by omega
 simp +contextual (maxSteps := 2000000) (disch := omega) [-Int.not_lt, -Int.not_le, -Nat.not_lt, -Nat.not_le, sx, hneg]
 cases hsx : sn1[x] with
 | true =>
  simp +contextual (maxSteps := 2000000) (disch := omega) [-Int.not_lt, -Int.not_le, -Nat.not_lt, -Nat.not_le, sx]
  exact .of (x + 1, kn1, sn1, ag1) ⟨hI1, by simp only; omega, fun h p hp => by
   have hp : p < x + 1 := hp
   by_cases e : p = x
   ·subst e; right; show Gr.sn sn1 p = true; rw [hs]; exact hsx
   ·exact hd1 h p (by omega), hm1⟩ (by simp only; omega) (Wk.subs (by simp) (by simp))
 | false =>
 have hgp : (m.gr2 f).pops x = m.pops f.code[x] := by simp [Mdl.gr2, hxl]
 have hgu : (m.gr2 f).ax0 x = f.code[x].ax0 := by simp [Mdl.gr2, hxl]
 have hgn : (m.gr2 f).aN0 x = f.code[x].ia0 x := by simp [Mdl.gr2, hxl]
 obtain ⟨p0, p1, p9, p7⟩ := hp _ (List.getElem_mem hxl)
 have hu : 0 <= f.code[x].ax0 /\ f.code[x].ax0 <= 1 := by unfold Ins.ax0; split <;> omega
 generalize hi : f.code[x] = i at *
 have hcapx := hI1.cap x (by rw [hg]; omega)
 have hcapf : (m.gr2 f).cap = f.stack := rfl
 rw [hcapf, hk] at hcapx
 have hout : (m.gr2 f).out (Gr.kn kn1 x) x = kn1[x] - m.pops i + i.ax0 := by unfold Gr.out; rw [hk, hgp, hgu]
 have hB1 := fun h => hI1.bad (a := x) (by rw [hg]; omega) (by rw [hk]; exact hnn) (.inl h)
 have hB2 := fun h => hI1.bad (a := x) (by rw [hg]; omega) (by rw [hk]; exact hnn) (.inr h)
 have hJ := hI1.begin (a := x) (by rw [hg]; omega) (by rw [hk]; exact hnn)
 rw [hout, hcapf] at hB2 hJ
 rw [hk, hgp] at hB1 hJ
 have hus := Gr.usn_set hxs hsx
 generalize hkx : kn1[x] = kx at *
 simp +contextual (maxSteps := 2000000) (disch := omega) [-Int.not_lt, -Int.not_le, -Nat.not_lt, -Nat.not_le, sx]
 refine al0 ?_; simp; refine aa0 (av0 m i p9) (by simp) ?_
 simp +contextual (maxSteps := 2000000) (disch := omega) [-Int.not_lt, -Int.not_le, -Nat.not_lt, -Nat.not_le, sx]
 refine ⟨fun h => by rw [hB1 (by omega)], fun h => ?_⟩
 refine ab0 ?_; simp; refine aa0 (ie0 i) (by simp) ?_
 simp +contextual (maxSteps := 2000000) (disch := omega) [-Int.not_lt, -Int.not_le, -Nat.not_lt, -Nat.not_le, sx]
 refine ⟨fun h => by rw [hB2 (by omega)], fun h => ?_⟩
 have hJ := hJ (by omega) (by omega)
 have hkv2 : kn1[x]? = some kx := by rw [List.getElem?_eq_getElem hxk, hkx]
 by_cases e7 : i.op = 7
 ·have hnx : i.ia0 x = [i.a] := by simp [Ins.ia0, e7]
  rw [hnx] at hgn
  simp +contextual (maxSteps := 2000000) (disch := omega) [-Int.not_lt, -Int.not_le, -Nat.not_lt, -Nat.not_le, sx, e7]
  refine ap0 (fun y : List Int × Nat => 1 - y.2)
   (fun y => [(109, vI y.2), (108, vI 1), (107, .arr (.l 998 0) 0 1), (12, vI (kx - m.pops i + i.ax0)), (9, vB true), (44, vI x), (43, vI f.code.length), (42, .lst (f.code.map Ins.cells)), (6, .arr (.l 24 0) 0 y.1.length), (8, .arr (.l 39 0) 0 sn1.length), (2, .bp (.l 2 0) 0), (5, .bp (.l 5 0) 0)])
   (fun y => [(.l 998 0, .row 3 1 true (a30 [i.a])), (.l 24 0, .row 3 1 true (a30 y.1)), (.l 39 0, .row 4 1 true (nu0 (sn1.set x true))), (.l 2 0, .box [.lst (m.consts.map Val.cells), .lst (m.funcs.map Fnc.cells)]), (.l 5 0, .box f.cells)])
   (fun y => (m.gr2 f).SJ x y.2 y.1 (sn1.set x true) /\ y.1[x]? = some kx) (kn1, 0) ⟨hJ, hkv2⟩
   (Wk.rens (.l 93 0) (.l 998 0) rfl (by simp [a30]) (by simp [renF]) (by simp [renF, bw0])) ?_
  rintro ⟨kn', j⟩ ⟨hj, hy⟩
  have hjl := hj.klen
  rw [hg] at hjl
  simp only at hy hj hjl
  simp +contextual (maxSteps := 2000000) (disch := omega) [-Int.not_lt, -Int.not_le, -Nat.not_lt, -Nat.not_le, sx]
  refine ⟨fun hlt => ?_, fun hge => ?_⟩
  ·have hjn : j < ((m.gr2 f).aN0 x).length := by rw [hgn]; simp; omega
   obtain ⟨q, hq, hq0⟩ : ∃ q, (([i.a] : List Int).map fun x => [vI x])[j]? = some [vI q] /\ ((m.gr2 f).aN0 x)[j]? = some q /\ 0 <= q := by
    rw [hgn]
    obtain rfl : j = 0 := by omega
    exact ⟨i.a, rfl, rfl, p7 (.inl e7)⟩
   obtain ⟨hq1, hq2⟩ := hq0
   have hqj : ((m.gr2 f).aN0 x)[j] = q := by rw [List.getElem?_eq_getElem hjn] at hq1; injection hq1
   have hkn : Gr.kn kn' x = kx := by simp [Gr.kn, hy]
   have ho : (m.gr2 f).out (Gr.kn kn' x) x = kx - m.pops i + i.ax0 := by unfold Gr.out; rw [hkn, hgp, hgu]
   have hbad := hj.bad hjn
   have hsame := hj.same hjn
   have hnew := hj.new hjn (by rw [hqj]; exact hq2) (fun p _ => hpu p)
   rw [hqj, ho, hg] at hbad hsame hnew
   refine cR0 hq ?_
   simp +contextual (maxSteps := 2000000) (disch := omega) [-Int.not_lt, -Int.not_le, -Nat.not_lt, -Nat.not_le, sx]
   refine ⟨fun h => by rw [hbad (.inl (by omega))], fun h => ?_⟩
   have hqk : q.toNat < kn'.length := by omega
   have hkq : Gr.kn kn' q.toNat = kn'[q.toNat] := Gr.qQ0 hqk
   rw [hkq] at hbad hsame hnew
   have hr2 : (a30 kn').set q.toNat [V.c (Value.int IntKind.i64 (kx - m.pops i + i.ax0))] = a30 (kn'.set q.toNat (kx - m.pops i + i.ax0)) := by simp [a30, List.map_set]
   have hsetl : ∀ z, (kn'.set q.toNat z).length = kn'.length := fun z => by simp
   by_cases hlt0 : kn'[q.toNat] < 0
   ·have hge0 : ¬ 0 <= kn'[q.toNat] := by omega
    have hne : q.toNat ≠ x := fun e => by
     have h2 : kn'[q.toNat]? = some kx := by rw [e]; exact hy
     rw [List.getElem?_eq_getElem hqk] at h2
     injection h2
     omega
    simp +contextual (maxSteps := 2000000) (disch := omega) [-Int.not_lt, -Int.not_le, -Nat.not_lt, -Nat.not_le, sx, hge0]
    exact .of (kn'.set q.toNat (kx - m.pops i + i.ax0), j + 1) ⟨hnew (by omega) (by omega), by rw [List.getElem?_set_ne hne]; exact hy⟩ (by simp only; omega) (Wk.subs (by simp) (by simp))
   ·have hge0 : 0 <= kn'[q.toNat] := by omega
    by_cases heq : kn'[q.toNat] = kx - m.pops i + i.ax0
    ·have hself : kn'.set q.toNat (kx - m.pops i + i.ax0) = kn' := by rw [<- heq]; exact List.set_getElem_self hqk
     rw [hself] at hr2
     simp +contextual (maxSteps := 2000000) (disch := omega) [-Int.not_lt, -Int.not_le, -Nat.not_lt, -Nat.not_le, sx, heq]
     rw [hr2]
     exact .of (kn', j + 1) ⟨hsame (by omega) heq, hy⟩ (by simp only; omega) (Wk.subs (by simp) (by simp))
    ·have hb := hbad (.inr ⟨hge0, heq⟩)
     have heq2 := eq_false heq
     simp +contextual (maxSteps := 2000000) (disch := omega) [-Int.not_lt, -Int.not_le, -Nat.not_lt, -Nat.not_le, sx, hge0, heq2, hb]
  ·exact .of (x + 1, kn', sn1.set x true, true) ⟨hj.end (by rw [hgn]; simp; omega), by simp only; omega, fun h => (by cases h), by simp only [if_true]; omega⟩ (by simp only; omega) (Wk.subs (by simp) (by simp))
 by_cases e8 : i.op = 8
 ·have hnx : i.ia0 x = [i.a, (x : Int) + 1] := by simp [Ins.ia0, e8]
  rw [hnx] at hgn
  simp +contextual (maxSteps := 2000000) (disch := omega) [-Int.not_lt, -Int.not_le, -Nat.not_lt, -Nat.not_le, sx, e8]
  refine ap0 (fun y : List Int × Nat => 2 - y.2)
   (fun y => [(109, vI y.2), (108, vI 2), (107, .arr (.l 998 0) 0 2), (12, vI (kx - m.pops i + i.ax0)), (9, vB true), (44, vI x), (43, vI f.code.length), (42, .lst (f.code.map Ins.cells)), (6, .arr (.l 24 0) 0 y.1.length), (8, .arr (.l 39 0) 0 sn1.length), (2, .bp (.l 2 0) 0), (5, .bp (.l 5 0) 0)])
   (fun y => [(.l 998 0, .row 3 1 true (a30 [i.a, (x : Int) + 1])), (.l 24 0, .row 3 1 true (a30 y.1)), (.l 39 0, .row 4 1 true (nu0 (sn1.set x true))), (.l 2 0, .box [.lst (m.consts.map Val.cells), .lst (m.funcs.map Fnc.cells)]), (.l 5 0, .box f.cells)])
   (fun y => (m.gr2 f).SJ x y.2 y.1 (sn1.set x true) /\ y.1[x]? = some kx) (kn1, 0) ⟨hJ, hkv2⟩
   (Wk.rens (.l 106 0) (.l 998 0) rfl (by simp [a30]) (by simp [renF]) (by simp [renF, bw0])) ?_
  rintro ⟨kn', j⟩ ⟨hj, hy⟩
  have hjl := hj.klen
  rw [hg] at hjl
  simp only at hy hj hjl
  simp +contextual (maxSteps := 2000000) (disch := omega) [-Int.not_lt, -Int.not_le, -Nat.not_lt, -Nat.not_le, sx]
  refine ⟨fun hlt => ?_, fun hge => ?_⟩
  ·have hjn : j < ((m.gr2 f).aN0 x).length := by rw [hgn]; simp; omega
   obtain ⟨q, hq, hq0⟩ : ∃ q, (([i.a, (x : Int) + 1] : List Int).map fun x => [vI x])[j]? = some [vI q] /\ ((m.gr2 f).aN0 x)[j]? = some q /\ 0 <= q := by
    rw [hgn]
    obtain rfl | rfl : j = 0 \/ j = 1 := by omega
    ·exact ⟨i.a, rfl, rfl, p7 (.inr e8)⟩
    ·exact ⟨(x : Int) + 1, rfl, rfl, by omega⟩
   obtain ⟨hq1, hq2⟩ := hq0
   have hqj : ((m.gr2 f).aN0 x)[j] = q := by rw [List.getElem?_eq_getElem hjn] at hq1; injection hq1
   have hkn : Gr.kn kn' x = kx := by simp [Gr.kn, hy]
   have ho : (m.gr2 f).out (Gr.kn kn' x) x = kx - m.pops i + i.ax0 := by unfold Gr.out; rw [hkn, hgp, hgu]
   have hbad := hj.bad hjn
   have hsame := hj.same hjn
   have hnew := hj.new hjn (by rw [hqj]; exact hq2) (fun p _ => hpu p)
   rw [hqj, ho, hg] at hbad hsame hnew
   refine cR0 hq ?_
   simp +contextual (maxSteps := 2000000) (disch := omega) [-Int.not_lt, -Int.not_le, -Nat.not_lt, -Nat.not_le, sx]
   refine ⟨fun h => by rw [hbad (.inl (by omega))], fun h => ?_⟩
   have hqk : q.toNat < kn'.length := by omega
   have hkq : Gr.kn kn' q.toNat = kn'[q.toNat] := Gr.qQ0 hqk
   rw [hkq] at hbad hsame hnew
   have hr2 : (a30 kn').set q.toNat [V.c (Value.int IntKind.i64 (kx - m.pops i + i.ax0))] = a30 (kn'.set q.toNat (kx - m.pops i + i.ax0)) := by simp [a30, List.map_set]
   have hsetl : ∀ z, (kn'.set q.toNat z).length = kn'.length := fun z => by simp
   by_cases hlt0 : kn'[q.toNat] < 0
   ·have hge0 : ¬ 0 <= kn'[q.toNat] := by omega
    have hne : q.toNat ≠ x := fun e => by
     have h2 : kn'[q.toNat]? = some kx := by rw [e]; exact hy
     rw [List.getElem?_eq_getElem hqk] at h2
     injection h2
     omega
    simp +contextual (maxSteps := 2000000) (disch := omega) [-Int.not_lt, -Int.not_le, -Nat.not_lt, -Nat.not_le, sx, hge0]
    exact .of (kn'.set q.toNat (kx - m.pops i + i.ax0), j + 1) ⟨hnew (by omega) (by omega), by rw [List.getElem?_set_ne hne]; exact hy⟩ (by simp only; omega) (Wk.subs (by simp) (by simp))
   ·have hge0 : 0 <= kn'[q.toNat] := by omega
    by_cases heq : kn'[q.toNat] = kx - m.pops i + i.ax0
    ·have hself : kn'.set q.toNat (kx - m.pops i + i.ax0) = kn' := by rw [<- heq]; exact List.set_getElem_self hqk
     rw [hself] at hr2
     simp +contextual (maxSteps := 2000000) (disch := omega) [-Int.not_lt, -Int.not_le, -Nat.not_lt, -Nat.not_le, sx, heq]
     rw [hr2]
     exact .of (kn', j + 1) ⟨hsame (by omega) heq, hy⟩ (by simp only; omega) (Wk.subs (by simp) (by simp))
    ·have hb := hbad (.inr ⟨hge0, heq⟩)
     have heq2 := eq_false heq
     simp +contextual (maxSteps := 2000000) (disch := omega) [-Int.not_lt, -Int.not_le, -Nat.not_lt, -Nat.not_le, sx, hge0, heq2, hb]
  ·exact .of (x + 1, kn', sn1.set x true, true) ⟨hj.end (by rw [hgn]; simp; omega), by simp only; omega, fun h => (by cases h), by simp only [if_true]; omega⟩ (by simp only; omega) (Wk.subs (by simp) (by simp))
 by_cases e10 : i.op = 10
 ·have hnx : i.ia0 x = [] := by simp [Ins.ia0, e10]
  rw [hnx] at hgn
  simp +contextual (maxSteps := 2000000) (disch := omega) [-Int.not_lt, -Int.not_le, -Nat.not_lt, -Nat.not_le, sx, e10]
  refine ap0 (fun y : List Int × Nat => 0 - y.2)
   (fun y => [(109, vI y.2), (108, vI 0), (107, .nil), (12, vI (kx - m.pops i + i.ax0)), (9, vB true), (44, vI x), (43, vI f.code.length), (42, .lst (f.code.map Ins.cells)), (6, .arr (.l 24 0) 0 y.1.length), (8, .arr (.l 39 0) 0 sn1.length), (2, .bp (.l 2 0) 0), (5, .bp (.l 5 0) 0)])
   (fun y => [(.l 24 0, .row 3 1 true (a30 y.1)), (.l 39 0, .row 4 1 true (nu0 (sn1.set x true))), (.l 2 0, .box [.lst (m.consts.map Val.cells), .lst (m.funcs.map Fnc.cells)]), (.l 5 0, .box f.cells)])
   (fun y => (m.gr2 f).SJ x y.2 y.1 (sn1.set x true) /\ y.1[x]? = some kx) (kn1, 0) ⟨hJ, hkv2⟩
   (Wk.subs (by simp) (by simp)) ?_
  rintro ⟨kn', j⟩ ⟨hj, hy⟩
  have hjl := hj.klen
  rw [hg] at hjl
  simp only at hy hj hjl
  simp +contextual (maxSteps := 2000000) (disch := omega) [-Int.not_lt, -Int.not_le, -Nat.not_lt, -Nat.not_le, sx]
  exact .of (x + 1, kn', sn1.set x true, true) ⟨hj.end (by rw [hgn]; simp), by simp only; omega, fun h => (by cases h), by simp only [if_true]; omega⟩ (by simp only; omega) (Wk.subs (by simp) (by simp))
 ·have hnx : i.ia0 x = [(x : Int) + 1] := by simp [Ins.ia0, e7, e8, e10]
  rw [hnx] at hgn
  simp +contextual (maxSteps := 2000000) (disch := omega) [-Int.not_lt, -Int.not_le, -Nat.not_lt, -Nat.not_le, sx, e7, e8, e10]
  refine ap0 (fun y : List Int × Nat => 1 - y.2)
   (fun y => [(109, vI y.2), (108, vI 1), (107, .arr (.l 998 0) 0 1), (12, vI (kx - m.pops i + i.ax0)), (9, vB true), (44, vI x), (43, vI f.code.length), (42, .lst (f.code.map Ins.cells)), (6, .arr (.l 24 0) 0 y.1.length), (8, .arr (.l 39 0) 0 sn1.length), (2, .bp (.l 2 0) 0), (5, .bp (.l 5 0) 0)])
   (fun y => [(.l 998 0, .row 3 1 true (a30 [(x : Int) + 1])), (.l 24 0, .row 3 1 true (a30 y.1)), (.l 39 0, .row 4 1 true (nu0 (sn1.set x true))), (.l 2 0, .box [.lst (m.consts.map Val.cells), .lst (m.funcs.map Fnc.cells)]), (.l 5 0, .box f.cells)])
   (fun y => (m.gr2 f).SJ x y.2 y.1 (sn1.set x true) /\ y.1[x]? = some kx) (kn1, 0) ⟨hJ, hkv2⟩
   (Wk.rens (.l 106 0) (.l 998 0) rfl (by simp [a30]) (by simp [renF]) (by simp [renF, bw0])) ?_
  rintro ⟨kn', j⟩ ⟨hj, hy⟩
  have hjl := hj.klen
  rw [hg] at hjl
  simp only at hy hj hjl
  simp +contextual (maxSteps := 2000000) (disch := omega) [-Int.not_lt, -Int.not_le, -Nat.not_lt, -Nat.not_le, sx]
  refine ⟨fun hlt => ?_, fun hge => ?_⟩
  ·have hjn : j < ((m.gr2 f).aN0 x).length := by rw [hgn]; simp; omega
   obtain ⟨q, hq, hq0⟩ : ∃ q, (([(x : Int) + 1] : List Int).map fun x => [vI x])[j]? = some [vI q] /\ ((m.gr2 f).aN0 x)[j]? = some q /\ 0 <= q := by
    rw [hgn]
    obtain rfl : j = 0 := by omega
    exact ⟨(x : Int) + 1, rfl, rfl, by omega⟩
   obtain ⟨hq1, hq2⟩ := hq0
   have hqj : ((m.gr2 f).aN0 x)[j] = q := by rw [List.getElem?_eq_getElem hjn] at hq1; injection hq1
   have hkn : Gr.kn kn' x = kx := by simp [Gr.kn, hy]
   have ho : (m.gr2 f).out (Gr.kn kn' x) x = kx - m.pops i + i.ax0 := by unfold Gr.out; rw [hkn, hgp, hgu]
   have hbad := hj.bad hjn
   have hsame := hj.same hjn
   have hnew := hj.new hjn (by rw [hqj]; exact hq2) (fun p _ => hpu p)
   rw [hqj, ho, hg] at hbad hsame hnew
   refine cR0 hq ?_
   simp +contextual (maxSteps := 2000000) (disch := omega) [-Int.not_lt, -Int.not_le, -Nat.not_lt, -Nat.not_le, sx]
   refine ⟨fun h => by rw [hbad (.inl (by omega))], fun h => ?_⟩
   have hqk : q.toNat < kn'.length := by omega
   have hkq : Gr.kn kn' q.toNat = kn'[q.toNat] := Gr.qQ0 hqk
   rw [hkq] at hbad hsame hnew
   have hr2 : (a30 kn').set q.toNat [V.c (Value.int IntKind.i64 (kx - m.pops i + i.ax0))] = a30 (kn'.set q.toNat (kx - m.pops i + i.ax0)) := by simp [a30, List.map_set]
   have hsetl : ∀ z, (kn'.set q.toNat z).length = kn'.length := fun z => by simp
   by_cases hlt0 : kn'[q.toNat] < 0
   ·have hge0 : ¬ 0 <= kn'[q.toNat] := by omega
    have hne : q.toNat ≠ x := fun e => by
     have h2 : kn'[q.toNat]? = some kx := by rw [e]; exact hy
     rw [List.getElem?_eq_getElem hqk] at h2
     injection h2
     omega
    simp +contextual (maxSteps := 2000000) (disch := omega) [-Int.not_lt, -Int.not_le, -Nat.not_lt, -Nat.not_le, sx, hge0]
    exact .of (kn'.set q.toNat (kx - m.pops i + i.ax0), j + 1) ⟨hnew (by omega) (by omega), by rw [List.getElem?_set_ne hne]; exact hy⟩ (by simp only; omega) (Wk.subs (by simp) (by simp))
   ·have hge0 : 0 <= kn'[q.toNat] := by omega
    by_cases heq : kn'[q.toNat] = kx - m.pops i + i.ax0
    ·have hself : kn'.set q.toNat (kx - m.pops i + i.ax0) = kn' := by rw [<- heq]; exact List.set_getElem_self hqk
     rw [hself] at hr2
     simp +contextual (maxSteps := 2000000) (disch := omega) [-Int.not_lt, -Int.not_le, -Nat.not_lt, -Nat.not_le, sx, heq]
     rw [hr2]
     exact .of (kn', j + 1) ⟨hsame (by omega) heq, hy⟩ (by simp only; omega) (Wk.subs (by simp) (by simp))
    ·have hb := hbad (.inr ⟨hge0, heq⟩)
     have heq2 := eq_false heq
     simp +contextual (maxSteps := 2000000) (disch := omega) [-Int.not_lt, -Int.not_le, -Nat.not_lt, -Nat.not_le, sx, hge0, heq2, hb]
  ·exact .of (x + 1, kn', sn1.set x true, true) ⟨hj.end (by rw [hgn]; simp; omega), by simp only; omega, fun h => (by cases h), by simp only [if_true]; omega⟩ (by simp only; omega) (Wk.subs (by simp) (by simp))
set_option maxHeartbeats 2000000 in
theorem g00 (m : Mdl) (states : Int) (hc : ∀ v ∈ m.consts, v.wt < 2 ^ 40) (hcl : m.consts.length < 2 ^ 40) (hfl : m.funcs.length < 2 ^ 40) (hf : ∀ f ∈ m.funcs, f.code.length < 2 ^ 40) :
  Ret prog fg0 [m.V, vI states] (vI (m.ver states)) := by
 refine af0 jl0 (by simp) ?_
 simp +contextual (maxSteps := 2000000) (disch := omega) [-Int.not_lt, -Int.not_le, -Nat.not_lt, -Nat.not_le, sx, eL0]
 refine ⟨fun h => (m.aU0 fun hv => by have := hv.s0; omega).symm, fun h1 => ⟨fun h => (m.aU0 fun hv => by have := hv.s1; omega).symm, fun h2 => ⟨fun h => (m.aU0 fun hv => by have := hv.fl; omega).symm, fun h3 => ⟨fun h => (m.aU0 fun hv => by have := hv.cl; omega).symm, fun h4 => ?_⟩⟩⟩⟩
 refine ap0 (fun i : Nat => m.consts.length - i) (fun i => [(32, vI i), (31, vI m.consts.length), (30, .lst (m.consts.map Val.cells)), (2, .bp (.l 2 0) 0), (1, vI states)])
  (fun _ => [(.l 2 0, .box [.lst (m.consts.map Val.cells), .lst (m.funcs.map Fnc.cells)])]) m.CkI 0 ⟨Nat.zero_le _, by simp⟩ (Wk.subs (by simp) (by simp)) ?_
 rintro i hI
 have hi := hI.1
 simp +contextual (maxSteps := 2000000) (disch := omega) [-Int.not_lt, -Int.not_le, -Nat.not_lt, -Nat.not_le, sx]
 refine ⟨fun hlt => ?_, fun hge => ?_⟩
 ·refine ab0 ?_; simp; refine aa0 (nm0 m.consts[i] (hc _ (List.getElem_mem hlt))) (by simp) ?_
  simp +contextual (maxSteps := 2000000) (disch := omega) [-Int.not_lt, -Int.not_le, -Nat.not_lt, -Nat.not_le, sx, bM0]
  refine ⟨fun h => (m.aU0 fun hv => hv.ct _ (List.getElem_mem hlt) h).symm, fun h => ?_⟩
  refine .of (i + 1) ⟨hlt, fun k hk1 hk2 => ?_⟩ (by omega) (Wk.subs (by simp) (by simp))
  by_cases e : k = i
  ·subst e; exact h
  ·exact hI.2 k hk1 (by omega)
 have hct : ∀ v ∈ m.consts, v.tyc ≠ [] := fun v hv => by
  obtain ⟨k, hk, rfl⟩ := List.getElem_of_mem hv
  exact hI.2 k hk (by omega)
 clear hI hi hge
 refine ap0 (fun i : Nat => m.funcs.length - i) (fun i => [(43, vI i), (42, vI m.funcs.length), (41, .lst (m.funcs.map Fnc.cells)), (2, .bp (.l 2 0) 0), (1, vI states)])
  (fun _ => [(.l 2 0, .box [.lst (m.consts.map Val.cells), .lst (m.funcs.map Fnc.cells)])]) (m.FkI states) 0 ⟨Nat.zero_le _, by simp⟩ (Wk.subs (by simp) (by simp)) ?_
 rintro i hI
 have hi := hI.1
 simp +contextual (maxSteps := 2000000) (disch := omega) [-Int.not_lt, -Int.not_le, -Nat.not_lt, -Nat.not_le, sx]
 refine ⟨fun hlt => ?_, fun hge => ?_⟩
 ·have hfl := hf _ (List.getElem_mem hlt)
  have hbd : m.vOk states -> m.fnOk states i m.funcs[i] := fun hv => hv.fn i hlt
  generalize hfe : m.funcs[i] = f at *
  refine ⟨fun h => (m.aU0 fun hv => by have := (hbd hv).bnd.p0; omega).symm, fun b0 => ⟨fun h => (m.aU0 fun hv => by have := (hbd hv).bnd.p1; omega).symm, fun b1 => ⟨fun h => (m.aU0 fun hv => by have := (hbd hv).bnd.l0; omega).symm, fun b2 => ⟨fun h => (m.aU0 fun hv => by have := (hbd hv).bnd.l1; omega).symm, fun b3 => ⟨fun h => (m.aU0 fun hv => by have := (hbd hv).bnd.z0; omega).symm, fun b4 => ⟨fun h => (m.aU0 fun hv => by have := (hbd hv).bnd.z1; omega).symm, fun b5 => ⟨fun h => (m.aU0 fun hv => by have := (hbd hv).bnd.s0; omega).symm, fun b6 => ⟨fun h => (m.aU0 fun hv => by have := (hbd hv).bnd.s1; omega).symm, fun b7 => ⟨fun h => (m.aU0 fun hv => by have := (hbd hv).bnd.c0; omega).symm, fun b8 => ⟨fun h => (m.aU0 fun hv => by have := (hbd hv).bnd.c1; omega).symm, fun b9 => ?_⟩⟩⟩⟩⟩⟩⟩⟩⟩⟩
  have hbn : f.bnd m := ⟨by omega, by omega, by omega, by omega, by omega, by omega, by omega, by omega, by omega, by omega⟩
  refine ap0 (fun j : Nat => f.code.length - j) (fun j => [(106, vI j), (105, vI f.code.length), (104, .lst (f.code.map Ins.cells)), (8, .bp (.l 8 0) 0), (7, vI i), (43, vI i), (42, vI m.funcs.length), (41, .lst (m.funcs.map Fnc.cells)), (2, .bp (.l 2 0) 0), (1, vI states)])
   (fun _ => [(.l 8 0, .box f.cells), (.l 2 0, .box [.lst (m.consts.map Val.cells), .lst (m.funcs.map Fnc.cells)])]) (m.IkI states i f) 0 ⟨Nat.zero_le _, by simp⟩ (Wk.subs (by simp) (by simp)) ?_
  rintro j hJ
  have hj := hJ.1
  simp +contextual (maxSteps := 2000000) (disch := omega) [-Int.not_lt, -Int.not_le, -Nat.not_lt, -Nat.not_le, sx]
  refine ⟨fun hjl => ?_, fun hjg => ?_⟩
  ·have hfit := jn0 m states i f.code[j] (by omega) (by simpa using hlt)
   simp only [Int.toNat_natCast] at hfit
   refine ab0 ?_; simp; refine aa0 (hfit) (by simp) ?_
   rw [hfe]
   simp +contextual (maxSteps := 2000000) (disch := omega) [-Int.not_lt, -Int.not_le, -Nat.not_lt, -Nat.not_le, sx]
   refine ⟨fun hr => ?_, fun hr => (m.aU0 fun hv => by have := (hbd hv).ins _ (List.getElem_mem hjl); rw [hr] at this; cases this).symm⟩
   refine .of (j + 1) ⟨hjl, fun k hk1 hk2 => ?_⟩ (by omega) (Wk.subs (by simp) (by simp))
   by_cases e : k = j
   ·subst e; exact hr
   ·exact hJ.2 k hk1 (by omega)
  ·have hins : ∀ x ∈ f.code, m.fn0 states i f x = true := fun x hx => by
    obtain ⟨k, hk, rfl⟩ := List.getElem_of_mem hx
    exact hJ.2 k hk (by omega)
   have hs := nn0 m i hlt
   rw [hfe] at hs
   refine ab0 ?_; simp; refine aa0 (hs (by omega) (by omega) (by omega) (by omega) fun x hx => sx0 hlt (hins x hx) fun k hk hki => (hI.2 k hk hki).bnd) (by simp) ?_
   simp +contextual (maxSteps := 2000000) (disch := omega) [-Int.not_lt, -Int.not_le, -Nat.not_lt, -Nat.not_le, sx]
   refine ⟨fun hr => ?_, fun hr => (m.aU0 fun hv => by have := (hbd hv).hgt; rw [hr] at this; cases this).symm⟩
   refine .of (i + 1) ⟨hlt, fun k hk1 hk2 => ?_⟩ (by omega) (Wk.subs (by simp) (by simp))
   by_cases e : k = i
   ·subst e; rw [hfe]; exact ⟨hbn, hins, hr⟩
   ·exact hI.2 k hk1 (by omega)
 ·refine (m.oZ0 ⟨by omega, by omega, by omega, by omega, hct, fun n hn => hI.2 n hn (by omega)⟩).symm
theorem eh0 (l : List Val) (hl : Val.wtL l < 2 ^ 40) : J prog cf0 [ay0 l] [] (· = .ret (.arr (.e 0) 0 l.length) [.row ac0 4 true (l.map Val.cells)]) := by
 have hlen := Val.be0 l
 refine az0 cK0 (by simp) ?_
 simp +contextual (maxSteps := 2000000) (disch := omega) [-Int.not_lt, -Int.not_le, -Nat.not_lt, -Nat.not_le, sx, b10]
 refine aA0 l.length (fun i => [(8, vI i), (7, vI l.length), (6, ay0 l), (3, .arr (.l 16 0) 0 i)]) (fun i => [(.l 16 0, .row ac0 4 true ((l.take i).map Val.cells))])
  (Wk.trans (Wk.subs (by simp) (by simp)) (Wk.row (s := 3) (id := .l 16 0) (ty := ac0) (sz := 4) rfl)) ?_
 intro i hi
 simp +contextual (maxSteps := 2000000) (disch := omega) [-Int.not_lt, -Int.not_le, -Nat.not_lt, -Nat.not_le, sx]
 refine ⟨fun hlt => ?_, fun hge => ?_⟩
 ·refine ab0 ?_; simp; refine aa0 (ao0 _ (Val.gy0 hl)) (by simp) ?_
  simp +contextual (maxSteps := 2000000) (disch := omega) [-Int.not_lt, -Int.not_le, -Nat.not_lt, -Nat.not_le, sx]
  exact .of hlt (Wk.subs (by simp) (by simp))
 ·have : i = l.length := by omega
  subst this
  refine endR _ _ (Wk.refl _ _) [.l 16 0] (by simp) ?_
  simp +contextual (maxSteps := 2000000) (disch := omega) [-Int.not_lt, -Int.not_le, -Nat.not_lt, -Nat.not_le, sx]
theorem eg0 (l : List Val) (hl : Val.wtL l < 2 ^ 40) : J prog cf0 [.arr (.e 0) 0 l.length] [.row ac0 4 true (l.map Val.cells)] (· = .ret (.arr (.e 1) 0 l.length) [.row ac0 4 true (l.map Val.cells), .row ac0 4 true (l.map Val.cells)]) := by
 have hlen := Val.be0 l
 refine az0 cK0 (by simp) ?_
 simp +contextual (maxSteps := 2000000) (disch := omega) [-Int.not_lt, -Int.not_le, -Nat.not_lt, -Nat.not_le, sx, b10, hpE]
 refine aA0 l.length (fun i => [(8, vI i), (7, vI l.length), (6, .arr (.e 0) 0 l.length), (3, .arr (.l 16 0) 0 i)]) (fun i => [(.l 16 0, .row ac0 4 true ((l.take i).map Val.cells)), (.e 0, .row ac0 4 true (l.map Val.cells))])
  (Wk.trans (Wk.subs (by simp) (by simp)) (Wk.row (s := 3) (id := .l 16 0) (ty := ac0) (sz := 4) rfl)) ?_
 intro i hi
 simp +contextual (maxSteps := 2000000) (disch := omega) [-Int.not_lt, -Int.not_le, -Nat.not_lt, -Nat.not_le, sx]
 refine ⟨fun hlt => ?_, fun hge => ?_⟩
 ·refine ab0 ?_; simp; refine aa0 (ao0 _ (Val.gy0 hl)) (by simp) ?_
  simp +contextual (maxSteps := 2000000) (disch := omega) [-Int.not_lt, -Int.not_le, -Nat.not_lt, -Nat.not_le, sx]
  exact .of hlt (Wk.subs (by simp) (by simp))
 ·have : i = l.length := by omega
  subst this
  refine endR _ _ (Wk.refl _ _) [.l 16 0] (by simp) ?_
  simp +contextual (maxSteps := 2000000) (disch := omega) [-Int.not_lt, -Int.not_le, -Nat.not_lt, -Nat.not_le, sx]
theorem jb0 (l : List Val) (i : Nat) (h : i < l.length) : (l.take (i + 1)).all sOk = ((l.take i).all sOk && (decide (l[i].wt <= 16384) && l[i].sound)) := by
 rw [List.take_succ_eq_append_getElem h, List.all_append]; simp [sOk]
set_option maxHeartbeats 4000000 in
theorem pL0 (m : Mdl) (hm : m.small) (states : List Val) (n : Int) (args : List Val) (fuel : Int) (hs : Val.wtL states < 2 ^ 40) (ha : Val.wtL args < 2 ^ 40) (hb : ¬ lN0 m states n args) :
  Ret prog eB0 [m.V, ay0 states, vI n, ay0 args, vI fuel] (.tup [ay0 [], .agg (bi0 Val.zero 40 0)]) := by
 have hsl := Val.be0 states
 have hal := Val.be0 args
 have hws : ∀ x ∈ states, x.wt < 2 ^ 40 := fun x hx => by have := Val.aR0 hx; omega
 have hwa : ∀ x ∈ args, x.wt < 2 ^ 40 := fun x hx => by have := Val.aR0 hx; omega
 refine af0 gW0 (by simp) ?_
 simp +contextual (maxSteps := 2000000) (disch := omega) [-Int.not_lt, -Int.not_le, -Nat.not_lt, -Nat.not_le, sx, dW0]
 refine ab0 ?_; simp; refine aa0 (g00 m states.length hm.hc hm.hcl hm.hfl hm.hf) (by simp) ?_
 by_cases hver : m.vOk states.length
 case neg =>
  rw [m.aU0 hver]
  simp +contextual (maxSteps := 2000000) (disch := omega) [-Int.not_lt, -Int.not_le, -Nat.not_lt, -Nat.not_le, sx]
  refine aA0 states.length (fun i => [(49, vI i), (48, vI states.length), (47, ay0 states), (12, vB false), (5, .bp (.l 5 0) 0), (11, .bp (.l 11 0) 0), (1, ay0 states), (2, vI n), (3, ay0 args), (4, vI fuel), (10, .nil)])
   (fun _ => [(.l 5 0, .box [.lst (m.consts.map Val.cells), .lst (m.funcs.map Fnc.cells)]), (.l 11 0, .box [vI 0, vI 0, vS noS, .nil, vI 0, vI 0])]) (Wk.subs (by simp) (by simp)) ?_
  intro i hi
  simp +contextual (maxSteps := 2000000) (disch := omega) [-Int.not_lt, -Int.not_le, -Nat.not_lt, -Nat.not_le, sx]
  refine ⟨fun hlt => .of hlt (Wk.subs (by simp) (by simp)), fun hge => ?_⟩
  refine aA0 args.length (fun i => [(61, vI i), (60, vI args.length), (59, ay0 args), (12, vB false), (5, .bp (.l 5 0) 0), (11, .bp (.l 11 0) 0), (1, ay0 states), (2, vI n), (3, ay0 args), (4, vI fuel), (10, .nil)])
   (fun _ => [(.l 5 0, .box [.lst (m.consts.map Val.cells), .lst (m.funcs.map Fnc.cells)]), (.l 11 0, .box [vI 0, vI 0, vS noS, .nil, vI 0, vI 0])]) (Wk.subs (by simp) (by simp)) ?_
  intro i hi
  simp +contextual (maxSteps := 2000000) (disch := omega) [-Int.not_lt, -Int.not_le, -Nat.not_lt, -Nat.not_le, sx]
  refine ⟨fun hlt => .of hlt (Wk.subs (by simp) (by simp)), fun hge => ?_⟩
  simp +contextual (maxSteps := 2000000) (disch := omega) [-Int.not_lt, -Int.not_le, -Nat.not_lt, -Nat.not_le, sx, bi0, Val.zero]
 rw [m.oZ0 hver]
 by_cases hn0 : 0 <= n
 case neg =>
  simp +contextual (maxSteps := 2000000) (disch := omega) [-Int.not_lt, -Int.not_le, -Nat.not_lt, -Nat.not_le, sx, hn0]
  refine aA0 states.length (fun i => [(49, vI i), (48, vI states.length), (47, ay0 states), (12, vB false), (5, .bp (.l 5 0) 0), (11, .bp (.l 11 0) 0), (1, ay0 states), (2, vI n), (3, ay0 args), (4, vI fuel), (10, .nil)])
   (fun _ => [(.l 5 0, .box [.lst (m.consts.map Val.cells), .lst (m.funcs.map Fnc.cells)]), (.l 11 0, .box [vI 0, vI 0, vS noS, .nil, vI 0, vI 0])]) (Wk.subs (by simp) (by simp)) ?_
  intro i hi
  simp +contextual (maxSteps := 2000000) (disch := omega) [-Int.not_lt, -Int.not_le, -Nat.not_lt, -Nat.not_le, sx]
  refine ⟨fun hlt => .of hlt (Wk.subs (by simp) (by simp)), fun hge => ?_⟩
  refine aA0 args.length (fun i => [(61, vI i), (60, vI args.length), (59, ay0 args), (12, vB false), (5, .bp (.l 5 0) 0), (11, .bp (.l 11 0) 0), (1, ay0 states), (2, vI n), (3, ay0 args), (4, vI fuel), (10, .nil)])
   (fun _ => [(.l 5 0, .box [.lst (m.consts.map Val.cells), .lst (m.funcs.map Fnc.cells)]), (.l 11 0, .box [vI 0, vI 0, vS noS, .nil, vI 0, vI 0])]) (Wk.subs (by simp) (by simp)) ?_
  intro i hi
  simp +contextual (maxSteps := 2000000) (disch := omega) [-Int.not_lt, -Int.not_le, -Nat.not_lt, -Nat.not_le, sx]
  refine ⟨fun hlt => .of hlt (Wk.subs (by simp) (by simp)), fun hge => ?_⟩
  simp +contextual (maxSteps := 2000000) (disch := omega) [-Int.not_lt, -Int.not_le, -Nat.not_lt, -Nat.not_le, sx, bi0, Val.zero]
 by_cases hn1 : n < m.funcs.length
 case neg =>
  simp +contextual (maxSteps := 2000000) (disch := omega) [-Int.not_lt, -Int.not_le, -Nat.not_lt, -Nat.not_le, sx, hn0, hn1]
  refine aA0 states.length (fun i => [(49, vI i), (48, vI states.length), (47, ay0 states), (12, vB false), (5, .bp (.l 5 0) 0), (11, .bp (.l 11 0) 0), (1, ay0 states), (2, vI n), (3, ay0 args), (4, vI fuel), (10, .nil)])
   (fun _ => [(.l 5 0, .box [.lst (m.consts.map Val.cells), .lst (m.funcs.map Fnc.cells)]), (.l 11 0, .box [vI 0, vI 0, vS noS, .nil, vI 0, vI 0])]) (Wk.subs (by simp) (by simp)) ?_
  intro i hi
  simp +contextual (maxSteps := 2000000) (disch := omega) [-Int.not_lt, -Int.not_le, -Nat.not_lt, -Nat.not_le, sx]
  refine ⟨fun hlt => .of hlt (Wk.subs (by simp) (by simp)), fun hge => ?_⟩
  refine aA0 args.length (fun i => [(61, vI i), (60, vI args.length), (59, ay0 args), (12, vB false), (5, .bp (.l 5 0) 0), (11, .bp (.l 11 0) 0), (1, ay0 states), (2, vI n), (3, ay0 args), (4, vI fuel), (10, .nil)])
   (fun _ => [(.l 5 0, .box [.lst (m.consts.map Val.cells), .lst (m.funcs.map Fnc.cells)]), (.l 11 0, .box [vI 0, vI 0, vS noS, .nil, vI 0, vI 0])]) (Wk.subs (by simp) (by simp)) ?_
  intro i hi
  simp +contextual (maxSteps := 2000000) (disch := omega) [-Int.not_lt, -Int.not_le, -Nat.not_lt, -Nat.not_le, sx]
  refine ⟨fun hlt => .of hlt (Wk.subs (by simp) (by simp)), fun hge => ?_⟩
  simp +contextual (maxSteps := 2000000) (disch := omega) [-Int.not_lt, -Int.not_le, -Nat.not_lt, -Nat.not_le, sx, bi0, Val.zero]
 have hn2 : n.toNat < m.funcs.length := by omega
 by_cases har : (args.length : Int) = (m.funcs[n.toNat]).params
 case neg =>
  have har2 := eq_false har
  simp +contextual (maxSteps := 2000000) (disch := omega) [-Int.not_lt, -Int.not_le, -Nat.not_lt, -Nat.not_le, sx, hn0, hn1, har2]
  refine aA0 states.length (fun i => [(49, vI i), (48, vI states.length), (47, ay0 states), (12, vB false), (5, .bp (.l 5 0) 0), (11, .bp (.l 11 0) 0), (1, ay0 states), (2, vI n), (3, ay0 args), (4, vI fuel), (10, .nil)])
   (fun _ => [(.l 5 0, .box [.lst (m.consts.map Val.cells), .lst (m.funcs.map Fnc.cells)]), (.l 11 0, .box [vI 0, vI 0, vS noS, .nil, vI 0, vI 0])]) (Wk.subs (by simp [har]) (by simp)) ?_
  intro i hi
  simp +contextual (maxSteps := 2000000) (disch := omega) [-Int.not_lt, -Int.not_le, -Nat.not_lt, -Nat.not_le, sx]
  refine ⟨fun hlt => .of hlt (Wk.subs (by simp) (by simp)), fun hge => ?_⟩
  refine aA0 args.length (fun i => [(61, vI i), (60, vI args.length), (59, ay0 args), (12, vB false), (5, .bp (.l 5 0) 0), (11, .bp (.l 11 0) 0), (1, ay0 states), (2, vI n), (3, ay0 args), (4, vI fuel), (10, .nil)])
   (fun _ => [(.l 5 0, .box [.lst (m.consts.map Val.cells), .lst (m.funcs.map Fnc.cells)]), (.l 11 0, .box [vI 0, vI 0, vS noS, .nil, vI 0, vI 0])]) (Wk.subs (by simp) (by simp)) ?_
  intro i hi
  simp +contextual (maxSteps := 2000000) (disch := omega) [-Int.not_lt, -Int.not_le, -Nat.not_lt, -Nat.not_le, sx]
  refine ⟨fun hlt => .of hlt (Wk.subs (by simp) (by simp)), fun hge => ?_⟩
  simp +contextual (maxSteps := 2000000) (disch := omega) [-Int.not_lt, -Int.not_le, -Nat.not_lt, -Nat.not_le, sx, bi0, Val.zero]
 simp +contextual (maxSteps := 2000000) (disch := omega) [-Int.not_lt, -Int.not_le, -Nat.not_lt, -Nat.not_le, sx, hn0, hn1, <- har]
 refine aA0 states.length (fun i => [(49, vI i), (48, vI states.length), (47, ay0 states), (12, vB ((states.take i).all sOk)), (5, .bp (.l 5 0) 0), (11, .bp (.l 11 0) 0), (1, ay0 states), (2, vI n), (3, ay0 args), (4, vI fuel), (10, .nil)])
  (fun _ => [(.l 5 0, .box [.lst (m.consts.map Val.cells), .lst (m.funcs.map Fnc.cells)]), (.l 11 0, .box [vI 0, vI 0, vS noS, .nil, vI 0, vI 0])]) (Wk.subs (by simp) (by simp)) ?_
 intro i hi
 cases hb0 : ((states.take i).all sOk) with
 | false =>
  simp +contextual (maxSteps := 2000000) (disch := omega) [-Int.not_lt, -Int.not_le, -Nat.not_lt, -Nat.not_le, sx]
  refine ⟨fun hlt => ?_, fun hge => ?_⟩
  ·have hst := jb0 states i hlt
   rw [hb0, Bool.false_and] at hst
   exact .of hlt (Wk.subs (by rw [hst]; simp) (by simp))
  have hi2 : i = states.length := by omega
  subst hi2
  rw [List.take_length] at hb0
  refine aA0 args.length (fun i => [(61, vI i), (60, vI args.length), (59, ay0 args), (12, vB false), (5, .bp (.l 5 0) 0), (11, .bp (.l 11 0) 0), (1, ay0 states), (2, vI n), (3, ay0 args), (4, vI fuel), (10, .nil)])
   (fun _ => [(.l 5 0, .box [.lst (m.consts.map Val.cells), .lst (m.funcs.map Fnc.cells)]), (.l 11 0, .box [vI 0, vI 0, vS noS, .nil, vI 0, vI 0])]) (Wk.subs (by simp) (by simp)) ?_
  intro i hi
  simp +contextual (maxSteps := 2000000) (disch := omega) [-Int.not_lt, -Int.not_le, -Nat.not_lt, -Nat.not_le, sx]
  refine ⟨fun hlt => .of hlt (Wk.subs (by simp) (by simp)), fun hge => ?_⟩
  simp +contextual (maxSteps := 2000000) (disch := omega) [-Int.not_lt, -Int.not_le, -Nat.not_lt, -Nat.not_le, sx, bi0, Val.zero]
 | true =>
  simp +contextual (maxSteps := 2000000) (disch := omega) [-Int.not_lt, -Int.not_le, -Nat.not_lt, -Nat.not_le, sx]
  refine ⟨fun hlt => ?_, fun hge => ?_⟩
  ·have hst := jb0 states i hlt
   rw [hb0, Bool.true_and] at hst
   refine ab0 ?_; simp; refine aa0 (cw0 states[i] (hws _ (List.getElem_mem hlt))) (by simp) ?_
   simp +contextual (maxSteps := 2000000) (disch := omega) [-Int.not_lt, -Int.not_le, -Nat.not_lt, -Nat.not_le, sx]
   exact .of hlt (Wk.subs (by rw [hst]; simp) (by simp))
  have hi2 : i = states.length := by omega
  subst hi2
  rw [List.take_length] at hb0
  have hst1 := hb0
  refine aA0 args.length (fun i => [(61, vI i), (60, vI args.length), (59, ay0 args), (12, vB ((args.take i).all sOk)), (5, .bp (.l 5 0) 0), (11, .bp (.l 11 0) 0), (1, ay0 states), (2, vI n), (3, ay0 args), (4, vI fuel), (10, .nil)])
   (fun _ => [(.l 5 0, .box [.lst (m.consts.map Val.cells), .lst (m.funcs.map Fnc.cells)]), (.l 11 0, .box [vI 0, vI 0, vS noS, .nil, vI 0, vI 0])]) (Wk.subs (by simp) (by simp)) ?_
  intro i hi
  cases hb0 : ((args.take i).all sOk) with
  | false =>
   simp +contextual (maxSteps := 2000000) (disch := omega) [-Int.not_lt, -Int.not_le, -Nat.not_lt, -Nat.not_le, sx]
   refine ⟨fun hlt => ?_, fun hge => ?_⟩
   ·have hst := jb0 args i hlt
    rw [hb0, Bool.false_and] at hst
    exact .of hlt (Wk.subs (by rw [hst]; simp) (by simp))
   have hi2 : i = args.length := by omega
   subst hi2
   rw [List.take_length] at hb0
   simp +contextual (maxSteps := 2000000) (disch := omega) [-Int.not_lt, -Int.not_le, -Nat.not_lt, -Nat.not_le, sx, bi0, Val.zero]
  | true =>
   simp +contextual (maxSteps := 2000000) (disch := omega) [-Int.not_lt, -Int.not_le, -Nat.not_lt, -Nat.not_le, sx]
   refine ⟨fun hlt => ?_, fun hge => ?_⟩
   ·have hst := jb0 args i hlt
    rw [hb0, Bool.true_and] at hst
    refine ab0 ?_; simp; refine aa0 (cw0 args[i] (hwa _ (List.getElem_mem hlt))) (by simp) ?_
    simp +contextual (maxSteps := 2000000) (disch := omega) [-Int.not_lt, -Int.not_le, -Nat.not_lt, -Nat.not_le, sx]
    exact .of hlt (Wk.subs (by rw [hst]; simp) (by simp))
   have hi2 : i = args.length := by omega
   subst hi2
   rw [List.take_length] at hb0
   exact absurd ⟨hver, hn0, hn2, har, hst1, hb0⟩ hb
set_option maxHeartbeats 8000000 in
theorem q50 (m : Mdl) (hm : m.small) (hcg : ∀ v ∈ m.consts, v.good) (states : List Val) (n : Int) (args : List Val) (fuel : Int) (hs : Val.wtL states < 2 ^ 40) (ha : Val.wtL args < 2 ^ 40) (hsg : ∀ v ∈ states, v.good) (hag : ∀ v ∈ args, v.good) (hb : lN0 m states n args)
  (g : Nat) (out : Out) (hr : run m g (m.funcs[n.toNat]'hb.n1) ((m.funcs[n.toNat]'hb.n1).start args states (cY0 fuel)) = some out) (hsp : nU0 m (m.funcs[n.toNat]'hb.n1) ((m.funcs[n.toNat]'hb.n1).start args states (cY0 fuel)))
  (hw : ∀ v sts fuel, out = .val v sts fuel -> v.wt < 2 ^ 40 /\ Val.wtL sts < 2 ^ 40) :
  Ret prog eB0 [m.V, ay0 states, vI n, ay0 args, vI fuel] (e20 states out) := by
 have hsl := Val.be0 states
 have hal := Val.be0 args
 have hws : ∀ x ∈ states, x.wt < 2 ^ 40 := fun x hx => by have := Val.aR0 hx; omega
 have hwa : ∀ x ∈ args, x.wt < 2 ^ 40 := fun x hx => by have := Val.aR0 hx; omega
 refine af0 gW0 (by simp) ?_
 simp +contextual (maxSteps := 2000000) (disch := omega) [-Int.not_lt, -Int.not_le, -Nat.not_lt, -Nat.not_le, sx, dW0]
 refine ab0 ?_; simp; refine aa0 (g00 m states.length hm.hc hm.hcl hm.hfl hm.hf) (by simp) ?_
 have hver := hb.ver
 have hn0 := hb.n0
 have hn2 := hb.n1
 have hn1 : n < m.funcs.length := by omega
 have har := hb.ar
 have hst := hb.st
 have hagb := hb.ag
 have hokc : ∀ f ∈ m.funcs, f.okc := fun f hf => by
  obtain ⟨k, hk, rfl⟩ := List.getElem_of_mem hf
  have b := (hb.ver.fn k hk).bnd
  have := b.l1; have := b.c1
  exact ⟨b.p0, b.l0, by omega, by omega⟩
 have hargs : args.length <= (m.funcs[n.toNat]).locals.toNat := by
  have := (hb.ver.fn _ hn2).bnd.l0
  omega
 have hJ0 := ref_Do_ok hokc hcg g n.toNat _ args states (cY0 fuel) out hn2 rfl hargs hag hsg hsp hr
 rw [show ((n.toNat : Nat) : Int) = n by omega] at hJ0
 have hoo := np0 dl0 hcg g hr ⟨fun v hv => by simp only [Fnc.start] at hv; simp at hv; rcases hv with hv | ⟨_, rfl⟩; exact hag v hv; exact dl0.int0, fun v hv => by simp [Fnc.start] at hv, hsg⟩
 clear hr hsp
 rw [m.oZ0 hver]
 simp +contextual (maxSteps := 2000000) (disch := omega) [-Int.not_lt, -Int.not_le, -Nat.not_lt, -Nat.not_le, sx, hn0, hn1, <- har]
 refine aA0 states.length (fun i => [(49, vI i), (48, vI states.length), (47, ay0 states), (12, vB true), (5, .bp (.l 5 0) 0), (11, .bp (.l 11 0) 0), (1, ay0 states), (2, vI n), (3, ay0 args), (4, vI fuel), (10, .nil)])
  (fun _ => [(.l 5 0, .box [.lst (m.consts.map Val.cells), .lst (m.funcs.map Fnc.cells)]), (.l 11 0, .box [vI 0, vI 0, vS noS, .nil, vI 0, vI 0])]) (Wk.subs (by simp) (by simp)) ?_
 intro i hi
 simp +contextual (maxSteps := 2000000) (disch := omega) [-Int.not_lt, -Int.not_le, -Nat.not_lt, -Nat.not_le, sx]
 refine ⟨fun hlt => ?_, fun hge => ?_⟩
 ·have hst : (decide (states[i].wt <= 16384) && states[i].sound) = true := by
   have := List.all_eq_true.1 hst _ (List.getElem_mem hlt)
   simpa only [sOk] using this
  refine ab0 ?_; simp; refine aa0 (cw0 states[i] (hws _ (List.getElem_mem hlt))) (by simp) ?_
  rw [hst]
  simp +contextual (maxSteps := 2000000) (disch := omega) [-Int.not_lt, -Int.not_le, -Nat.not_lt, -Nat.not_le, sx]
  exact .of hlt (Wk.subs (by simp) (by simp))
 refine aA0 args.length (fun i => [(61, vI i), (60, vI args.length), (59, ay0 args), (12, vB true), (5, .bp (.l 5 0) 0), (11, .bp (.l 11 0) 0), (1, ay0 states), (2, vI n), (3, ay0 args), (4, vI fuel), (10, .nil)])
  (fun _ => [(.l 5 0, .box [.lst (m.consts.map Val.cells), .lst (m.funcs.map Fnc.cells)]), (.l 11 0, .box [vI 0, vI 0, vS noS, .nil, vI 0, vI 0])]) (Wk.subs (by simp) (by simp)) ?_
 intro i hi
 simp +contextual (maxSteps := 2000000) (disch := omega) [-Int.not_lt, -Int.not_le, -Nat.not_lt, -Nat.not_le, sx]
 refine ⟨fun hlt => ?_, fun hge => ?_⟩
 ·have hst : (decide (args[i].wt <= 16384) && args[i].sound) = true := by
   have := List.all_eq_true.1 hagb _ (List.getElem_mem hlt)
   simpa only [sOk] using this
  refine ab0 ?_; simp; refine aa0 (cw0 args[i] (hwa _ (List.getElem_mem hlt))) (by simp) ?_
  rw [hst]
  simp +contextual (maxSteps := 2000000) (disch := omega) [-Int.not_lt, -Int.not_le, -Nat.not_lt, -Nat.not_le, sx]
  exact .of hlt (Wk.subs (by simp) (by simp))
 by_cases c1 : fuel < 0
 ·have e1 : cY0 fuel = 0 := by unfold cY0; (repeat' split) <;> omega
  have hJ := hJ0
  rw [e1] at hJ
  simp +contextual (maxSteps := 2000000) (disch := omega) [-Int.not_lt, -Int.not_le, -Nat.not_lt, -Nat.not_le, sx, c1]
  refine cr0 [] [] rfl rfl (by simp) ?_
  simp
  have hpO := eh0 states hs
  try simp [VmS.obs, VmS.obs', ag0] at hpO
  refine ch0 80 hpO (by simp) ?_
  clear hpO
  simp +contextual (maxSteps := 2000000) (disch := omega) [-Int.not_lt, -Int.not_le, -Nat.not_lt, -Nat.not_le, sx]
  refine ab0 ?_; simp; refine aa0 (bI0 args ha) (by simp) ?_
  simp +contextual (maxSteps := 2000000) (disch := omega) [-Int.not_lt, -Int.not_le, -Nat.not_lt, -Nat.not_le, sx]
  cases out with
  | val v sts fu =>
   obtain ⟨hwv, hwst⟩ := hw v sts fu rfl
   have hpO : J _ _ _ _ (fun r => r = _) := hJ
   simp [am0] at hpO
   refine ad0 [.l 83 0, .l 80 0] rfl rfl (by simp) ?_
   simp
   refine ae0 88 hpO (by simp) ?_
   clear hpO
   simp +contextual (maxSteps := 2000000) (disch := omega) [-Int.not_lt, -Int.not_le, -Nat.not_lt, -Nat.not_le, sx]
   refine cr0 [.l 80 0] [.l 80 0] rfl rfl (by simp) ?_
   simp
   have hpO := eg0 sts hwst
   try simp [VmS.obs, VmS.obs', ag0] at hpO
   refine ch0 109 hpO (by simp) ?_
   clear hpO
   simp +contextual (maxSteps := 2000000) (disch := omega) [-Int.not_lt, -Int.not_le, -Nat.not_lt, -Nat.not_le, sx]
   refine al0 ?_; simp; refine aa0 (ao0 v hwv) (by simp) ?_
   have hbuild : List.take 5 (v.cells ++ [vI 0, vI 0]) ++ vI fu :: List.drop 6 (v.cells ++ [vI 0, vI 0]) = [vI v.kind, vI v.num, vS v.text, ay0 v.list, vI 0, vI fu] := by rw [Val.au0]; rfl
   simp +contextual (maxSteps := 2000000) (disch := omega) [-Int.not_lt, -Int.not_le, -Nat.not_lt, -Nat.not_le, sx, hbuild, e20, bi0]
  | trap e sts fu =>
   have hpO : J _ _ _ _ (fun r => r = _) := hJ
   simp [am0] at hpO
   refine ad0 [.l 83 0, .l 80 0] rfl rfl (by simp) ?_
   simp
   refine ae0 88 hpO (by simp) ?_
   clear hpO
   have he : e ≠ 0 := hoo
   have he2 := eq_false he
   simp +contextual (maxSteps := 2000000) (disch := omega) [-Int.not_lt, -Int.not_le, -Nat.not_lt, -Nat.not_le, sx, he2]
   refine al0 ?_; simp; refine aa0 (bI0 states hs) (by simp) ?_
   simp +contextual (maxSteps := 2000000) (disch := omega) [-Int.not_lt, -Int.not_le, -Nat.not_lt, -Nat.not_le, sx, e20, bi0, Val.zero]
 by_cases c2 : 4096 < fuel
 ·have e1 : cY0 fuel = 4096 := by unfold cY0; (repeat' split) <;> omega
  have hJ := hJ0
  rw [e1] at hJ
  simp +contextual (maxSteps := 2000000) (disch := omega) [-Int.not_lt, -Int.not_le, -Nat.not_lt, -Nat.not_le, sx, c1, c2]
  refine cr0 [] [] rfl rfl (by simp) ?_
  simp
  have hpO := eh0 states hs
  try simp [VmS.obs, VmS.obs', ag0] at hpO
  refine ch0 80 hpO (by simp) ?_
  clear hpO
  simp +contextual (maxSteps := 2000000) (disch := omega) [-Int.not_lt, -Int.not_le, -Nat.not_lt, -Nat.not_le, sx]
  refine ab0 ?_; simp; refine aa0 (bI0 args ha) (by simp) ?_
  simp +contextual (maxSteps := 2000000) (disch := omega) [-Int.not_lt, -Int.not_le, -Nat.not_lt, -Nat.not_le, sx]
  cases out with
  | val v sts fu =>
   obtain ⟨hwv, hwst⟩ := hw v sts fu rfl
   have hpO : J _ _ _ _ (fun r => r = _) := hJ
   simp [am0] at hpO
   refine ad0 [.l 83 0, .l 80 0] rfl rfl (by simp) ?_
   simp
   refine ae0 88 hpO (by simp) ?_
   clear hpO
   simp +contextual (maxSteps := 2000000) (disch := omega) [-Int.not_lt, -Int.not_le, -Nat.not_lt, -Nat.not_le, sx]
   refine cr0 [.l 80 0] [.l 80 0] rfl rfl (by simp) ?_
   simp
   have hpO := eg0 sts hwst
   try simp [VmS.obs, VmS.obs', ag0] at hpO
   refine ch0 109 hpO (by simp) ?_
   clear hpO
   simp +contextual (maxSteps := 2000000) (disch := omega) [-Int.not_lt, -Int.not_le, -Nat.not_lt, -Nat.not_le, sx]
   refine al0 ?_; simp; refine aa0 (ao0 v hwv) (by simp) ?_
   have hbuild : List.take 5 (v.cells ++ [vI 0, vI 0]) ++ vI fu :: List.drop 6 (v.cells ++ [vI 0, vI 0]) = [vI v.kind, vI v.num, vS v.text, ay0 v.list, vI 0, vI fu] := by rw [Val.au0]; rfl
   simp +contextual (maxSteps := 2000000) (disch := omega) [-Int.not_lt, -Int.not_le, -Nat.not_lt, -Nat.not_le, sx, hbuild, e20, bi0]
  | trap e sts fu =>
   have hpO : J _ _ _ _ (fun r => r = _) := hJ
   simp [am0] at hpO
   refine ad0 [.l 83 0, .l 80 0] rfl rfl (by simp) ?_
   simp
   refine ae0 88 hpO (by simp) ?_
   clear hpO
   have he : e ≠ 0 := hoo
   have he2 := eq_false he
   simp +contextual (maxSteps := 2000000) (disch := omega) [-Int.not_lt, -Int.not_le, -Nat.not_lt, -Nat.not_le, sx, he2]
   refine al0 ?_; simp; refine aa0 (bI0 states hs) (by simp) ?_
   simp +contextual (maxSteps := 2000000) (disch := omega) [-Int.not_lt, -Int.not_le, -Nat.not_lt, -Nat.not_le, sx, e20, bi0, Val.zero]
 have e1 : cY0 fuel = fuel := by unfold cY0; (repeat' split) <;> omega
 have hJ := hJ0
 rw [e1] at hJ
 simp +contextual (maxSteps := 2000000) (disch := omega) [-Int.not_lt, -Int.not_le, -Nat.not_lt, -Nat.not_le, sx, c1, c2]
 refine cr0 [] [] rfl rfl (by simp) ?_
 simp
 have hpO := eh0 states hs
 try simp [VmS.obs, VmS.obs', ag0] at hpO
 refine ch0 80 hpO (by simp) ?_
 clear hpO
 simp +contextual (maxSteps := 2000000) (disch := omega) [-Int.not_lt, -Int.not_le, -Nat.not_lt, -Nat.not_le, sx]
 refine ab0 ?_; simp; refine aa0 (bI0 args ha) (by simp) ?_
 simp +contextual (maxSteps := 2000000) (disch := omega) [-Int.not_lt, -Int.not_le, -Nat.not_lt, -Nat.not_le, sx]
 cases out with
 | val v sts fu =>
  obtain ⟨hwv, hwst⟩ := hw v sts fu rfl
  have hpO : J _ _ _ _ (fun r => r = _) := hJ
  simp [am0] at hpO
  refine ad0 [.l 83 0, .l 80 0] rfl rfl (by simp) ?_
  simp
  refine ae0 88 hpO (by simp) ?_
  clear hpO
  simp +contextual (maxSteps := 2000000) (disch := omega) [-Int.not_lt, -Int.not_le, -Nat.not_lt, -Nat.not_le, sx]
  refine cr0 [.l 80 0] [.l 80 0] rfl rfl (by simp) ?_
  simp
  have hpO := eg0 sts hwst
  try simp [VmS.obs, VmS.obs', ag0] at hpO
  refine ch0 109 hpO (by simp) ?_
  clear hpO
  simp +contextual (maxSteps := 2000000) (disch := omega) [-Int.not_lt, -Int.not_le, -Nat.not_lt, -Nat.not_le, sx]
  refine al0 ?_; simp; refine aa0 (ao0 v hwv) (by simp) ?_
  have hbuild : List.take 5 (v.cells ++ [vI 0, vI 0]) ++ vI fu :: List.drop 6 (v.cells ++ [vI 0, vI 0]) = [vI v.kind, vI v.num, vS v.text, ay0 v.list, vI 0, vI fu] := by rw [Val.au0]; rfl
  simp +contextual (maxSteps := 2000000) (disch := omega) [-Int.not_lt, -Int.not_le, -Nat.not_lt, -Nat.not_le, sx, hbuild, e20, bi0]
 | trap e sts fu =>
  have hpO : J _ _ _ _ (fun r => r = _) := hJ
  simp [am0] at hpO
  refine ad0 [.l 83 0, .l 80 0] rfl rfl (by simp) ?_
  simp
  refine ae0 88 hpO (by simp) ?_
  clear hpO
  have he : e ≠ 0 := hoo
  have he2 := eq_false he
  simp +contextual (maxSteps := 2000000) (disch := omega) [-Int.not_lt, -Int.not_le, -Nat.not_lt, -Nat.not_le, sx, he2]
  refine al0 ?_; simp; refine aa0 (bI0 states hs) (by simp) ?_
  simp +contextual (maxSteps := 2000000) (disch := omega) [-Int.not_lt, -Int.not_le, -Nat.not_lt, -Nat.not_le, sx, e20, bi0, Val.zero]
theorem qj0 {m : Mdl} {states args : List Val} {n fuel : Int} (h : ke0 m states args) (hl : m.n40 states args = false) (hb : lN0 m states n args) (h0 : 0 <= fuel) (h1 : fuel <= 4000) :
  nU0 m (m.funcs[n.toNat]'hb.n1) ((m.funcs[n.toNat]'hb.n1).start args states fuel) := by
 obtain ⟨g, out, hr, _⟩ := mz0 h hl hb (fuel := fuel + 1) (by omega) (by omega)
 exact ⟨by simp only [Fnc.start]; omega, g, out, hr⟩
theorem mA0 {l : List Val} (q1 : Val.limL l) (q2 : l.all sOk = true) : ∀ v ∈ l, v.good := fun v hv => by
 have := List.all_eq_true.1 q2 v hv
 simp only [sOk, Bool.and_eq_true, decide_eq_true_eq] at this
 exact ⟨⟨this.1, so0 q1 v hv⟩, this.2⟩
theorem rk0 (m : Mdl) (states args : List Val) (n fuel : Int) (h : ke0 m states args) :
  Ret prog fc0 [m.V, .agg [ay0 states, ay0 args, vI n, vI fuel]] (vB true) := by
 refine af0 eQ0 (by simp) ?_
 simp +contextual (maxSteps := 2000000) (disch := omega) [-Int.not_lt, -Int.not_le, -Nat.not_lt, -Nat.not_le, sx, eH0]
 refine ab0 ?_; simp; refine aa0 (tl0) (by simp) ?_
 simp +contextual (maxSteps := 2000000) (disch := omega) [-Int.not_lt, -Int.not_le, -Nat.not_lt, -Nat.not_le, sx]
 refine ab0 ?_; simp; refine aa0 (s10 m states args h.sm h.hc h.hs h.ha h.ls h.la) (by simp) ?_
 cases hl : m.n40 states args with
 | true => simp +contextual (maxSteps := 2000000) (disch := omega) [-Int.not_lt, -Int.not_le, -Nat.not_lt, -Nat.not_le, sx]
 | false =>
 obtain ⟨l1, l2, l3⟩ := pC0 hl
 have hms := h.small hl
 have hsl := Val.be0 states
 have hal := Val.be0 args
 have hwt : ∀ x ∈ states ++ args, x.wt < 2 ^ 40 := fun x hx => by
  simp at hx
  rcases hx with hx | hx
  ·have := Val.aR0 hx; omega
  ·have := Val.aR0 hx; omega
 simp +contextual (maxSteps := 2000000) (disch := omega) [-Int.not_lt, -Int.not_le, -Nat.not_lt, -Nat.not_le, sx]
 obtain ⟨L, hL⟩ : ∃ L, L = states ++ args := ⟨_, rfl⟩
 have hLl : L.length = states.length + args.length := by rw [hL]; simp
 have hLm : L.map Val.cells = states.map Val.cells ++ args.map Val.cells := by rw [hL]; simp
 rw [<- hL] at hwt
 refine aA0 L.length (fun i => [(28, vI i), (27, vI L.length), (26, .arr (.l 26 0) 0 L.length), (2, .bp (.l 2 0) 0), (3, .bp (.l 3 0) 0)])
  (fun _ => [(.l 26 0, .row ac0 4 true (L.map Val.cells)), (.l 2 0, .box [.lst (m.consts.map Val.cells), .lst (m.funcs.map Fnc.cells)]), (.l 3 0, .box [ay0 states, ay0 args, vI n, vI fuel])]) (Wk.subs (by simp [hLl]) (by simp [hLm])) ?_
 intro i hi
 simp +contextual (maxSteps := 2000000) (disch := omega) [-Int.not_lt, -Int.not_le, -Nat.not_lt, -Nat.not_le, sx]
 refine ⟨fun hlt => ?_, fun hge => ?_⟩
 ·have hw := hwt _ (List.getElem_mem hlt)
  refine al0 ?_; simp; refine aa0 (lb0 L[i] hw) (by simp) ?_
  simp +contextual (maxSteps := 2000000) (disch := omega) [-Int.not_lt, -Int.not_le, -Nat.not_lt, -Nat.not_le, sx]
  refine ab0 ?_; simp; refine aa0 (cw0 L[i] hw) (by simp) ?_
  simp +contextual (maxSteps := 2000000) (disch := omega) [-Int.not_lt, -Int.not_le, -Nat.not_lt, -Nat.not_le, sx]
  exact .of hlt (Wk.subs (by simp) (by simp))
 have hfu : (if 200 < fuel then 200 else fuel) <= 200 := by split <;> omega
 generalize hfue : (if 200 < fuel then 200 else fuel) = fu at *
 by_cases hb : lN0 m states n args
 case neg =>
  refine ab0 ?_; simp; refine aa0 (ti0 m hms states n args fu (by omega) (by omega) hb) (by simp [bi0, V.pure, V.bD0]) ?_
  simp +contextual (maxSteps := 2000000) (disch := omega) [-Int.not_lt, -Int.not_le, -Nat.not_lt, -Nat.not_le, sx, bi0, Val.zero, hfue]
  refine ab0 ?_; simp; refine aa0 (pL0 m hms states n args fu (by omega) (by omega) hb) (by simp [bi0, V.pure, V.bD0]) ?_
  simp +contextual (maxSteps := 2000000) (disch := omega) [-Int.not_lt, -Int.not_le, -Nat.not_lt, -Nat.not_le, sx, bi0, Val.zero]
  refine ab0 ?_; simp; refine aa0 (dP0 [] [] (by simp [Val.wtL]) (by simp [Val.wtL])) (by simp) ?_
  simp +contextual (maxSteps := 2000000) (disch := omega) [-Int.not_lt, -Int.not_le, -Nat.not_lt, -Nat.not_le, sx]
  have hso := bU0 (.mk 0 0 noS []) (.mk 0 0 noS []) 40 0 40 0 mq0 mq0
  simp only [outC, Val.kind, Val.num, Val.text, Val.list] at hso
  refine ab0 ?_; simp; refine aa0 (hso) (by simp) ?_
  simp +contextual (maxSteps := 2000000) (disch := omega) [-Int.not_lt, -Int.not_le, -Nat.not_lt, -Nat.not_le, sx]
 have hm0 : 0 <= cY0 fu /\ cY0 fu <= 200 := by unfold cY0; (repeat' split) <;> omega
 obtain ⟨m0, m1⟩ := hm0
 obtain ⟨g, out, hr, hgo⟩ := mz0 h hl hb (fuel := cY0 fu) m0 (by omega)
 have hsp := qj0 h hl hb (fuel := cY0 fu) m0 (by omega)
 have ho : lh0 Val.ok states.length (cY0 fu) out := hgo.imp fun v hv => hv.1
 have hwto := ho.wt (by have := hb.ver.s1; omega)
 have hgs : ∀ v ∈ states, v.good := mA0 h.hs hb.st
 have hga : ∀ v ∈ args, v.good := mA0 h.ha hb.ag
 have hgc : ∀ v ∈ m.consts, v.good := fun v hv => ⟨limL_ok h.hc l1 v hv, snd_const (hb.ver.ct v hv)⟩
 refine ab0 ?_; simp; refine aa0 (la0 m hms states n args fu (by omega) (by omega) hb g out hr hwto) (by cases out <;> simp [e20, bi0, V.pure, V.bD0]) ?_
 have hR := q50 m hms hgc states n args fu (by omega) (by omega) hgs hga hb g out hr hsp hwto
 clear hr hsp
 cases out with
 | val v sts f =>
  obtain ⟨hv1, hv2⟩ := hwto v sts f rfl
  obtain ⟨vk, vn, vt, vl⟩ := v
  simp +contextual (maxSteps := 2000000) (disch := omega) [-Int.not_lt, -Int.not_le, -Nat.not_lt, -Nat.not_le, sx, e20, bi0, Val.kind, Val.num, Val.text, Val.list, hfue]
  refine ab0 ?_; simp; refine aa0 hR (by simp [e20, bi0, V.pure, V.bD0]) ?_
  simp +contextual (maxSteps := 2000000) (disch := omega) [-Int.not_lt, -Int.not_le, -Nat.not_lt, -Nat.not_le, sx, e20, bi0, Val.kind, Val.num, Val.text, Val.list]
  refine ab0 ?_; simp; refine aa0 (dP0 sts sts hv2 hv2) (by simp) ?_
  simp +contextual (maxSteps := 2000000) (disch := omega) [-Int.not_lt, -Int.not_le, -Nat.not_lt, -Nat.not_le, sx]
  have hso := bU0 (.mk vk vn vt vl) (.mk vk vn vt vl) 0 f 0 f hv1 hv1
  simp only [outC, Val.kind, Val.num, Val.text, Val.list] at hso
  refine ab0 ?_; simp; refine aa0 (hso) (by simp) ?_
  simp +contextual (maxSteps := 2000000) (disch := omega) [-Int.not_lt, -Int.not_le, -Nat.not_lt, -Nat.not_le, sx]
 | trap e sts f =>
  simp +contextual (maxSteps := 2000000) (disch := omega) [-Int.not_lt, -Int.not_le, -Nat.not_lt, -Nat.not_le, sx, e20, bi0, Val.zero, Val.kind, Val.num, Val.text, Val.list, hfue]
  refine ab0 ?_; simp; refine aa0 hR (by simp [e20, bi0, V.pure, V.bD0]) ?_
  simp +contextual (maxSteps := 2000000) (disch := omega) [-Int.not_lt, -Int.not_le, -Nat.not_lt, -Nat.not_le, sx, e20, bi0, Val.zero, Val.kind, Val.num, Val.text, Val.list]
  refine ab0 ?_; simp; refine aa0 (dP0 states states (by omega) (by omega)) (by simp) ?_
  simp +contextual (maxSteps := 2000000) (disch := omega) [-Int.not_lt, -Int.not_le, -Nat.not_lt, -Nat.not_le, sx]
  have hso := bU0 (.mk 0 0 noS []) (.mk 0 0 noS []) e f e f mq0 mq0
  simp only [outC, Val.kind, Val.num, Val.text, Val.list] at hso
  refine ab0 ?_; simp; refine aa0 (hso) (by simp) ?_
  simp +contextual (maxSteps := 2000000) (disch := omega) [-Int.not_lt, -Int.not_le, -Nat.not_lt, -Nat.not_le, sx]
end Go.Am
end

section
namespace Go.Proofs.YtnkfojenfnbchaaGreatDoor.vmRuns
open Go.ChangeShapes Go.WideShapes Go.ChangeAt Go.RowKit
open Go.Am (imW vI vB ay0 rA0 Mdl Val)
set_option maxRecDepth 100000
theorem own : ownKnob Tryz.prog.godebug = none := by kernel_rfl
theorem gTab : Tryz.prog.globalNamed "internal/strconv.uint64pow10" = some 1 := by kernel_rfl
theorem gTabType : (Tryz.prog.globals[1]?).map (·.type) = some 145 := by kernel_rfl
theorem u145 : ∃ e, Tryz.prog.underlying 145 = some (.array 20 e) /\ Tryz.prog.underlying e = some (.int .u64) /\ Tryz.prog.cellsOf e = 1 := ⟨_, Tryz.underlying145, by kernel_rfl, by kernel_rfl⟩
theorem c145 : Tryz.prog.cellsOf 145 = 20 := by kernel_rfl
theorem table {W : World} (h : laidMetH Tryz.prog Rows.vmRunsRow.laid W) : ∀ p ∈ rA0, imW W p.1 = some p.2 := by
 have h' : laidMet Tryz.prog Rows.vmRunsRow.laid W := h
 obtain ⟨ps, ⟨_, _, _, _, _, _, _, _, _, _, ⟨_, _, _, _, _, _, _, _, _, _, ⟨g, t, cs, fuel, p, q, hg, ht, hv, hd, _⟩, _⟩, _⟩, _⟩ := h'
 obtain rfl := Option.some.inj (gTab.symm.trans hg)
 obtain rfl := Option.some.inj (gTabType.symm.trans ht)
 obtain ⟨e, u1, u2, u3⟩ := u145
 have hd' : DataW.trod (fun _ => ()) Tryz.prog W 0 (fun _ => true) false fuel 145 cs.toList = some (Lib.tabData .u64 Lib.pow10Tab, p) := hd
 have hc := Lib.cells_of_tab u1 u2 u3 c145 hd'
 intro x hx
 obtain rfl := List.mem_singleton.1 hx
 unfold World.var? at hv
 rw [gTab] at hv
 simp only [Option.bind_some] at hv
 show imW W 1 = _
 unfold imW
 split at hv
 ·rename_i c t f hb
  rw [hb]
  injection hv with hv
  subst hv
  have : c = (Lib.pow10Tab.map fun z => Value.int .u64 z).toArray := by
   rw [<- hc]
  rw [this]
  rfl
 ·cases hv
def T15 (t : TypeId) : Prop := t = 25 \/ t = 27 \/ t = 3 \/ t = 22 \/ t = 23 \/ t = 31 \/ t = 52 \/ t = 50 \/ t = 48 \/ t = 9
theorem flat15 : ∀ t, T15 t -> Go.Am.sM0 Tryz.prog T15 t := by
 intro t h
 rcases h with rfl | rfl | rfl | rfl | rfl | rfl | rfl | rfl | rfl | rfl <;> unfold Go.Am.sM0
 ·rw [Tryz.underlying25]; intro f hf; simp at hf; rcases hf with rfl | rfl <;> simp [T15]
 ·rw [Tryz.underlying27]; intro f hf; simp at hf; rcases hf with rfl | rfl | rfl | rfl <;> simp [T15]
 ·rw [Tryz.underlying3]; trivial
 ·rw [Tryz.underlying22]; exact ⟨by simp [T15], by rw [Go.Am.c31]; decide⟩
 ·rw [Tryz.underlying23]; exact ⟨by simp [T15], by rw [Go.Am.c52]; decide⟩
 ·rw [Tryz.underlying31]; intro f hf; simp at hf; rcases hf with rfl | rfl | rfl | rfl <;> simp [T15]
 ·rw [Tryz.underlying52]; intro f hf; simp at hf; rcases hf with rfl | rfl | rfl | rfl | rfl <;> simp [T15]
 ·rw [Tryz.underlying50]; exact ⟨by simp [T15], by rw [Go.Am.c48]; decide⟩
 ·rw [Tryz.underlying48]; intro f hf; simp at hf; rcases hf with rfl | rfl <;> simp [T15]
 ·rw [Tryz.underlying9]; trivial
theorem args15 : ∀ t ∈ Tryz.f3.params.toList, T15 t := by
 rw [Tryz.params3]; intro t ht; simp at ht; rcases ht with rfl | rfl <;> simp [T15]
theorem contract (H : Type) (enc : TypeId × Value -> H) (W : World) (base : Nat) (args : Array Value) (ds gs : List (DataW H)) (before : List MemPlace)
  (hval : ∀ (j : Nat) t v, Tryz.f3.params[j]? = some t -> args[j]? = some v -> Value.okWide Tryz.prog W .any base t v)
  (hW : DataW.Whole enc Tryz.prog Tryz.f3.params.toList Rows.vmRunsSpec.vars false W args.toList ds gs before) (hL : laidMetH Tryz.prog Rows.vmRunsRow.laid W) (hk : Rows.uptoSmall H (ds ++ gs) = true) :
  Calls Tryz.prog 3 args W fun e W' => ∃ v, e = .returned v /\ Rows.vmRunsSpec.post enc Tryz.prog Tryz.f3 false true false false W args v W' := by
 have hW' := hW
 obtain ⟨p, q, hA0, hV, rfl, hfz, hnd⟩ := hW
 have hA : DataW.TrodAll enc Tryz.prog W 0 (fun _ => true) true Tryz.f3.params.toList args.toList ds p := hA0
 rw [Tryz.params3] at hA hval
 obtain ⟨a0, vs0, d0, ds0, p0, q0, hargs, rfl, rfl, h0, r0⟩ := trodAll_cons hA
 obtain ⟨a1, vs1, d1, ds1, p1, q1, rfl, rfl, rfl, h1, r1⟩ := trodAll_cons r0
 obtain ⟨rfl, rfl, rfl⟩ := trodAll_nil r1
 obtain rfl : args = #[a0, a1] := by cases args; simp_all
 obtain ⟨rfl, rfl⟩ := trodVars_none hV
 have hbk : Rows.uptoBulkAll ([d0, d1] ++ []) <= 1048576 := of_decide_eq_true hk
 simp only [List.append_nil, Rows.uptoBulkAll] at hbk
 obtain ⟨c0, rfl, _, _⟩ : ∃ cs, a0 = .agg cs /\ cs.size = Tryz.prog.cellsOf 25 /\ True := by
  have := hval 0 25 a0 rfl rfl
  unfold Value.okWide at this
  rw [Tryz.underlying25] at this
  obtain ⟨cs, h1, h2, _⟩ := this
  exact ⟨cs, h1, h2, trivial⟩
 obtain ⟨c1, rfl, _, _⟩ : ∃ cs, a1 = .agg cs /\ cs.size = Tryz.prog.cellsOf 27 /\ True := by
  have := hval 1 27 a1 rfl rfl
  unfold Value.okWide at this
  rw [Tryz.underlying27] at this
  obtain ⟨cs, h1, h2, _⟩ := this
  exact ⟨cs, h1, h2, trivial⟩
 obtain ⟨n0, t0⟩ := h0
 obtain ⟨n1, t1⟩ := h1
 obtain ⟨m, x0, x1, e0, hR0, hsm, hlc⟩ := Go.Am.rd_mdl t0 (by simp only; omega)
 obtain ⟨sts, ags, k, f, y0, y1, y2, y3, e1, hR1, hls, hla, hns, hna⟩ := Go.Am.rd_from t1 (by simp only; omega)
 have ec0 : c0 = #[x0, x1] := by cases c0; simpa [Value.cells] using e0
 have ec1 : c1 = #[y0, y1, y2, y3] := by cases c1; simpa [Value.cells] using e1
 subst ec0 ec1
 have hret := Go.Am.rk0 m sts ags k f ⟨hsm, hlc, hls, hla, hns, hna⟩
 have hcalled := hret (imW W) Go.Am.Mu.bot #[.agg #[x0, x1], .agg #[y0, y1, y2, y3]] W
  ⟨rfl, fun j u hj => by
   match j, hj with
   | 0, hj => injection hj with hj; subst hj; exact hR0
   | 1, hj => injection hj with hj; subst hj; exact hR1
   | j + 2, hj => simp at hj⟩ (Go.Am.wd_imW (table hL))
 obtain ⟨fn, c, k1, k2, k3, _⟩ := Go.Am.eQ0.ex
 have hrun : (callFunc 3 #[.agg #[x0, x1], .agg #[y0, y1, y2, y3]]).run Tryz.prog W = .ok (.enter 3 #[.agg #[x0, x1], .agg #[y0, y1, y2, y3]]) W := by
  have k2' : ¬ fn.name = "runtime.NumGoroutine" := by simpa using k2
  simp [callFunc, k1, k2', k3]
 unfold Go.Am.e00 at hcalled
 rw [hrun] at hcalled
 refine Calls.mono hcalled ?_
 rintro e W' ⟨r, H', μ', rfl, ⟨x, rfl, hx⟩, hNj, hWd, _, _⟩
 obtain rfl := hx.cm0
 have hkeep : ∀ b, b < W.heap.size -> W'.heap[b]? = W.heap[b]? := fun b hb => hNj.keep b hb (by simp [Go.Am.Owns, Go.Am.hpE])
 refine ⟨_, rfl, _, _, _, [], p0 ++ (p1 ++ []), [], hW', ?_, ?_, rfl, ?_, fun h => by cases h⟩
 ·exact trodAll_cons_mk (shut_bool Tryz.underlying4 _) trodAll_mk0
 ·exact Go.Am.mc0 flat15 hkeep args15 hA0 fun p hp => by
   have := hW'.lt p (by simpa using hp)
   simpa using this
 ·refine ⟨hNj.os, hNj.output, fun i hi => ?_⟩
  rw [hkeep i hi]
  split
  ·rename_i e1 e2
   rw [e1] at e2
   injection e2 with e2
   injection e2 with e3 e4 e5
   subst e3 e4 e5
   exact ⟨rfl, rfl, rfl, fun _ _ => rfl⟩
  ·rename_i e1 e2
   rw [e1] at e2
   injection e2 with e2
   injection e2 with e3 e4
   exact .inr ⟨e3.symm, e4.symm⟩
  ·rfl
end Go.Proofs.YtnkfojenfnbchaaGreatDoor.vmRuns
end

section
namespace Go.Proofs.YtnkfojenfnbchaaGreatDoor.vmRuns
open Go.ChangeShapes Go.WideShapes Go.ChangeAt Go.RowKit
set_option maxRecDepth 100000
def cellsD : DataW Unit -> Array Value
 | .agg ps => (ps.map fun d => match d with | .lit (.int k n) => Value.int k n | _ => Value.bool false).toArray
 | _ => #[]
def lay (o : Obj) (d : DataW Unit) : Obj := match o with | .cells _ t frozen => .cells (cellsD d) t frozen | o => o
noncomputable def nc0 (os : Os) : World :=
 { World.holding Tryz.prog os ⟨#[], #[], []⟩ with heap := (((World.holding Tryz.prog os ⟨#[], #[], []⟩).heap.modify 1 fun o => lay o Rows.laid_internal_strconv_uint64pow10).modify 2 fun o => lay o Rows.laid_math_bits_deBruijn32tab).modify 3 fun o => lay o Rows.laid_math_bits_deBruijn64tab }
abbrev wargs : Array Value := #[.agg #[.slice none 0 0, .slice none 0 0], .agg #[.slice none 0 0, .slice none 0 0, .int .i64 0, .int .i64 0]]
theorem laid_met (os : Os) : laidMet Tryz.prog Rows.vmRunsRow.laid ((nc0 os).forCall (fun _ _ => 0) ⟨#[], wargs, []⟩).memory :=
 laidMet_of_run' 8 (by kernel_rfl) (by kernel_rfl)
theorem reads (os : Os) {H : Type} (enc : TypeId × Value -> H) : ∃ places, DataW.whole enc Tryz.prog ((nc0 os).forCall (fun _ _ => 0) ⟨#[], wargs, []⟩).memory Tryz.f3.params.toList Rows.vmRunsSpec.vars false wargs.toList 8 =
  some ([.agg [.nil, .nil], .agg [.nil, .nil, .lit (.int .i64 0), .lit (.int .i64 0)]], [], places) :=
 ⟨[], by kernel_rfl⟩
theorem s20 (os : Os) (started : os.Started) (H : Type) (enc : TypeId × Value -> H) (F : Stop.Interp) :
  ReturnsInHanded {} Tryz.checked os 3 .any ((Rows.OpenSpec.upto Rows.vmRunsSpec).preRow enc Tryz.prog Tryz.f3 Rows.vmRunsUptoRow.domain false Rows.vmRunsUptoRow.laid) (((Rows.OpenSpec.upto Rows.vmRunsSpec).at F).post enc Tryz.prog Tryz.f3 false true false false) := by
 obtain ⟨places, hx⟩ := reads os enc
 refine returnsInHanded_of_row (C := Tryz.checked) (s := Rows.OpenSpec.upto Rows.vmRunsSpec) own started (by kernel_rfl) Tryz.func3
  (witness_row_at (enc := enc) (C := Tryz.checked) false (nc0 os) wargs rfl (by kernel_rfl) (by kernel_rfl) (by kernel_rfl)
   (OpenSpec.preRow_of_cond 8 hx (by kernel_rfl) (fun k hk => by cases hk; kernel_rfl) (by kernel_rfl) (laid_met os))) ?_
 intro W base args ds gs before hval hW _ hcond _ hL _ _
 exact contract H enc W base args ds gs before hval hW hL (hcond _ rfl)
theorem saidUpto : Rows.VmRunsUptoSaid :=
 OpenClaim.holds_of_cond 3 Tryz.f3 rfl rfl rfl rfl rfl rfl rfl ⟨rfl, rfl, rfl, rfl, rfl⟩ rfl rfl rfl rfl rfl (by kernel_rfl) Tryz.func3 (by kernel_rfl)
  (of_decide_eq_true (by kernel_rfl)) (by unfold Func.isWrapper; first | (rw [if_pos (by decide +kernel)]; kernel_rfl) | (rw [if_neg (by decide +kernel)]; exact ⟨rfl, rfl⟩))
  (fun os started H enc _ F => by rw [OpenClaim.pre_eq_preRow]; exact s20 os started H enc F)
theorem plain (f : FuncId) (fn : Func) (hf : Tryz.pinned.checked.prog.funcNamed "quern/quernlaw15.VmRuns" = some f) (hfn : Tryz.pinned.checked.prog.funcs[f]? = some fn) :
  true = Tryz.pinned.checked.prog.looks [] /\ ∀ (j : Nat) t, fn.params[j]? = some t -> Tryz.pinned.checked.prog.wantsStandIn t = false := by
 obtain rfl : f = 3 := Option.some.inj ((show Tryz.prog.funcNamed "quern/quernlaw15.VmRuns" = some 3 by kernel_rfl).symm.trans hf) |>.symm
 obtain rfl : fn = Tryz.f3 := (Option.some.inj (Tryz.func3.symm.trans hfn)).symm
 refine ⟨by kernel_rfl, fun j t ht => ?_⟩
 rw [Tryz.params3] at ht
 have hm := Array.mem_of_getElem? ht
 simp at hm
 rcases hm with rfl | rfl
 ·exact (show Tryz.prog.wantsStandIn 25 = false by kernel_rfl)
 ·exact (show Tryz.prog.wantsStandIn 27 = false by kernel_rfl)
theorem cardUpto : Rows.VmRunsUptoCardSaid :=
 Claim7.holds_tied_plain_at .later [] _ _ _ _ saidUpto (fun _ h => by cases h) (by kernel_rfl) (fun _ h => by cases h) vmRunsUpto_row_tie rfl ⟨rfl, rfl⟩ (by kernel_rfl) rfl plain (by kernel_rfl)
end Go.Proofs.YtnkfojenfnbchaaGreatDoor.vmRuns
end
