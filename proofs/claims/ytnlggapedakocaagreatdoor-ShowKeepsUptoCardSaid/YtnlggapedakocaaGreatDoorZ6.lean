/- ShowKeeps of the given program, part 6 of 6 of the proof: for all arguments within the bound the law answers true, and each argument reads behind the call as before. Conditions: those of the given card. -/
import Derived.Test.YtnlggapedakocaaGreatDoorZ5
import Derived.Test.YtnlggapedakocaaGreatDoorCards
set_option maxHeartbeats 1600000
set_option linter.all false
set_option linter.unusedVariables false
set_option linter.unusedSimpArgs false
set_option linter.unnecessarySimpa false
section
namespace Go.Am
set_option maxRecDepth 100000
attribute [local irreducible] vc vcIs vcI vcOp vcD vcDp vcDR vcT vcAR bV0 aY0 panD neG ne pv J bH0 bM0 bY0 bd0 evK evsK nthK objK boxK rowK bz0 intK strK aggK fnK ifcK ay0 az0 ldK ldaK iaK srcK stK appK appD b00 pvK bC0 aW0 bL0 bs0 slAV bG0
set_option maxHeartbeats 1600000 in
theorem mB0 (c : Bool) : ∀ (m : Nat) (x y : Exq), SizeOf.sizeOf x < m -> plE x = true -> samE c x y = true -> Ret prog eT0 [x.V, y.V, vB c] (vB true) := by
 intro m
 induction m with
 | zero => intro x y h; omega
 | succ m ih =>
 intro x y hm hp h
 obtain ⟨⟨e1, e2, e3, e4, e5, e6, e7⟩, ha, hl⟩ := sC0 h
 obtain ⟨p1, p2⟩ := plE_args hp
 have hg := (rK0 hl).2
 have hsz : ∀ z ∈ x.args, SizeOf.sizeOf z < m := fun z hz => by
  have := List.sizeOf_lt_of_mem hz
  have hx : SizeOf.sizeOf x.args < SizeOf.sizeOf x := by obtain ⟨k, op, num, text, slot, type, args, at_⟩ := x; simp only [Exq.args, Exq.mk.sizeOf_spec]; omega
  omega
 refine cm0 iy0 (by simp) ?_
 cases c
 ·skip
  refine rS8 @cP0.eq_1 e1 e2 e3 e4 e5 e6 e7 ?_
  refine aN0 y.args.length (fun i => [(70, vI i), (69, vI y.args.length), (3, .bp (.l 3 0) 0), (4, .bp (.l 4 0) 0), (2, vB false)]) (fun i => [(.l 3 0, .box x.cells), (.l 4 0, .box y.cells)]) (Wk.subs (by simp) (by simp)) ?_
  intro i hi
  by_cases hlt : i < y.args.length
  ·have hlt' : (i : Int) < y.args.length := by omega
   have hlt2 : i < x.args.length := by omega
   have hlt3 : (i : Int) < x.args.length := by omega
   have hc := ih x.args[i] y.args[i] (hsz _ (List.getElem_mem _)) (nh0 p2 _ (List.getElem_mem _)) (hg i hlt2 hlt)
   simp +contextual (maxSteps := 2000000) (disch := omega) [-Int.not_lt, -Int.not_le, -Nat.not_lt, -Nat.not_le, sx, hlt', hlt2, hlt3]
   refine ak0 ?_; simp; refine ah0 (hc) (by simp) ?_
   refine rS0 ?_
   exact .of hlt (Wk.subs (by simp) (by simp))
  ·have hge' : ¬ (i : Int) < y.args.length := by omega
   exact rT1 hge'
 ·have ha : x.at_ = y.at_ := ha.resolve_left (by simp)
  refine rS9 @cP0.eq_1 e1 e2 e3 e4 e5 e6 e7 ha ?_
  refine aN0 y.args.length (fun i => [(70, vI i), (69, vI y.args.length), (3, .bp (.l 3 0) 0), (4, .bp (.l 4 0) 0), (2, vB true)]) (fun i => [(.l 3 0, .box x.cells), (.l 4 0, .box y.cells)]) (Wk.subs (by simp) (by simp)) ?_
  intro i hi
  by_cases hlt : i < y.args.length
  ·have hlt' : (i : Int) < y.args.length := by omega
   have hlt2 : i < x.args.length := by omega
   have hlt3 : (i : Int) < x.args.length := by omega
   have hc := ih x.args[i] y.args[i] (hsz _ (List.getElem_mem _)) (nh0 p2 _ (List.getElem_mem _)) (hg i hlt2 hlt)
   simp +contextual (maxSteps := 2000000) (disch := omega) [-Int.not_lt, -Int.not_le, -Nat.not_lt, -Nat.not_le, sx, hlt', hlt2, hlt3]
   refine ak0 ?_; simp; refine ah0 (hc) (by simp) ?_
   refine rS0 ?_
   exact .of hlt (Wk.subs (by simp) (by simp))
  ·have hge' : ¬ (i : Int) < y.args.length := by omega
   exact rT1 hge'
@[simp] theorem Slo.tail0 (x : Slo) : x.cells.tail = [.c (.string x.type), .c (.int .i64 x.at_)] := by rw [Slo.ac0]; rfl
theorem lP0 (c : Bool) (l l' : List Slo) (hn : l.length < 2 ^ 30) (h : cX0 c l l' = true) : Ret prog ex0 [.lst (l.map Slo.cells), .lst (l'.map Slo.cells), vB c] (vB true) := by
 obtain ⟨hlen, hg⟩ := ql0 h
 refine cm0 h90 (by simp) ?_
 refine rS2 @dX0.eq_1 hlen ?_
 refine aN0 l'.length (fun i => [(15, vI i), (14, vI l'.length), (0, .lst (l.map Slo.cells)), (1, .lst (l'.map Slo.cells)), (2, vB c)]) (fun i => []) (Wk.subs (by simp) (by simp)) ?_
 intro i hi
 by_cases hlt : i < l'.length
 ·have hlt' : (i : Int) < l'.length := by omega
  have hlt2 : i < l.length := by omega
  have hlt3 : (i : Int) < l.length := by omega
  obtain ⟨⟨e1, e2⟩, e3⟩ := pc0 (hg i hlt2 hlt)
  rcases e3 with rfl | e3
  ·simp +contextual (maxSteps := 2000000) (disch := omega) [-Int.not_lt, -Int.not_le, -Nat.not_lt, -Nat.not_le, sx, hlt', hlt2, hlt3, e1, e2]
   exact .of hlt (Wk.subs (by simp) (by simp))
  ·cases c
   ·simp +contextual (maxSteps := 2000000) (disch := omega) [-Int.not_lt, -Int.not_le, -Nat.not_lt, -Nat.not_le, sx, hlt', hlt2, hlt3, e1, e2]
    exact .of hlt (Wk.subs (by simp) (by simp))
   ·simp +contextual (maxSteps := 2000000) (disch := omega) [-Int.not_lt, -Int.not_le, -Nat.not_lt, -Nat.not_le, sx, hlt', hlt2, hlt3, e1, e2, e3]
    exact .of hlt (Wk.subs (by simp) (by simp))
 ·have hge' : ¬ (i : Int) < l'.length := by omega
  exact rT1 hge'
set_option maxHeartbeats 3200000 in
theorem pu0 (c : Bool) : ∀ (m : Nat) (l l' : List Stm), SizeOf.sizeOf l < m -> plB l = true -> l.length < 2 ^ 30 -> samB c l l' = true -> Ret prog ey0 [.lst (l.map Stm.cells), .lst (l'.map Stm.cells), vB c] (vB true) := by
 intro m
 induction m with
 | zero => intro l l' h; omega
 | succ m ih =>
 intro l l' hm hp hn h
 obtain ⟨hlen, hg⟩ := samB_get h
 refine cm0 ia0 (by simp) ?_
 refine rS2 @dY0.eq_1 hlen ?_
 refine aN0 l'.length (fun i => [(18, vI i), (17, vI l'.length), (0, .lst (l.map Stm.cells)), (1, .lst (l'.map Stm.cells)), (2, vB c)]) (fun i => []) (Wk.subs (by simp) (by simp)) ?_
 intro i hi
 by_cases hlt : i < l'.length
 ·have hlt' : (i : Int) < l'.length := by omega
  have hlt2 : i < l.length := by omega
  have hlt3 : (i : Int) < l.length := by omega
  obtain ⟨⟨e1, e2, e3, e4, e5, e6⟩, ha, hE, hB, hC⟩ := sE0 (hg i hlt2 hlt)
  obtain ⟨p1, p0, p2, p3, p4, p5⟩ := plS_parts (plB_mem hp _ (List.getElem_mem hlt2))
  have hx : SizeOf.sizeOf l[i].body < m /\ SizeOf.sizeOf l[i].els < m := by
   have h1 := List.sizeOf_lt_of_mem (List.getElem_mem hlt2)
   have h2 : SizeOf.sizeOf l[i].body < SizeOf.sizeOf l[i] /\ SizeOf.sizeOf l[i].els < SizeOf.sizeOf l[i] := by
    obtain ⟨k, name, slot, state, num, e, body, els, at_⟩ := l[i]
    simp only [Stm.body, Stm.els, Stm.mk.sizeOf_spec]; omega
   omega
  have hb := ih _ _ hx.1 p4 p2 hB
  have hc := ih _ _ hx.2 p5 p3 hC
  have hgE := (rK0 hE).2
  cases c
  ·skip
   simp +contextual (maxSteps := 2000000) (disch := omega) [-Int.not_lt, -Int.not_le, -Nat.not_lt, -Nat.not_le, sx, hlt', hlt2, hlt3, e1, e2, e3, e4, e5, e6]
   refine aN0 l'[i].e.length (fun k => [(84, vI k), (83, vI l'[i].e.length), (18, vI i), (17, vI l'.length), (0, .lst (l.map Stm.cells)), (1, .lst (l'.map Stm.cells)), (2, vB false), (8, .bp (.l 8 0) 0), (9, .bp (.l 9 0) 0)])
    (fun k => [(.l 8 0, .box l[i].cells), (.l 9 0, .box l'[i].cells)]) (Wk.subs (by simp) (by simp)) ?_
   intro k hk
   by_cases hkl : k < l'[i].e.length
   ·have hkl' : (k : Int) < l'[i].e.length := by omega
    have hkl2 : k < l[i].e.length := by omega
    have hkl3 : (k : Int) < l[i].e.length := by omega
    have hx := mB0 false _ l[i].e[k] l'[i].e[k] (Nat.lt_succ_self _) (nh0 p1 _ (List.getElem_mem _)) (hgE k hkl2 hkl)
    simp +contextual (maxSteps := 2000000) (disch := omega) [-Int.not_lt, -Int.not_le, -Nat.not_lt, -Nat.not_le, sx, hkl', hkl2, hkl3]
    refine ak0 ?_; simp; refine ah0 (hx) (by simp) ?_
    refine rS0 ?_
    exact .of hkl (Wk.subs (by simp) (by simp))
   ·have hkg : ¬ (k : Int) < l'[i].e.length := by omega
    refine rS1 hkg ?_
    refine ak0 ?_; simp; refine ah0 (hb) (by simp) ?_
    refine rS0 ?_
    refine ak0 ?_; simp; refine ah0 (hc) (by simp) ?_
    refine rS0 ?_
    exact .of hlt (Wk.subs (by simp) (by simp))
  ·have ha : l[i].at_ = l'[i].at_ := ha.resolve_left (by simp)
   simp +contextual (maxSteps := 2000000) (disch := omega) [-Int.not_lt, -Int.not_le, -Nat.not_lt, -Nat.not_le, sx, hlt', hlt2, hlt3, e1, e2, e3, e4, e5, e6, ha]
   refine aN0 l'[i].e.length (fun k => [(84, vI k), (83, vI l'[i].e.length), (18, vI i), (17, vI l'.length), (0, .lst (l.map Stm.cells)), (1, .lst (l'.map Stm.cells)), (2, vB true), (8, .bp (.l 8 0) 0), (9, .bp (.l 9 0) 0)])
    (fun k => [(.l 8 0, .box l[i].cells), (.l 9 0, .box l'[i].cells)]) (Wk.subs (by simp) (by simp)) ?_
   intro k hk
   by_cases hkl : k < l'[i].e.length
   ·have hkl' : (k : Int) < l'[i].e.length := by omega
    have hkl2 : k < l[i].e.length := by omega
    have hkl3 : (k : Int) < l[i].e.length := by omega
    have hx := mB0 true _ l[i].e[k] l'[i].e[k] (Nat.lt_succ_self _) (nh0 p1 _ (List.getElem_mem _)) (hgE k hkl2 hkl)
    simp +contextual (maxSteps := 2000000) (disch := omega) [-Int.not_lt, -Int.not_le, -Nat.not_lt, -Nat.not_le, sx, hkl', hkl2, hkl3]
    refine ak0 ?_; simp; refine ah0 (hx) (by simp) ?_
    refine rS0 ?_
    exact .of hkl (Wk.subs (by simp) (by simp))
   ·have hkg : ¬ (k : Int) < l'[i].e.length := by omega
    refine rS1 hkg ?_
    refine ak0 ?_; simp; refine ah0 (hb) (by simp) ?_
    refine rS0 ?_
    refine ak0 ?_; simp; refine ah0 (hc) (by simp) ?_
    refine rS0 ?_
    exact .of hlt (Wk.subs (by simp) (by simp))
 ·have hge' : ¬ (i : Int) < l'.length := by omega
  exact rT1 hge'
set_option maxHeartbeats 3200000 in
theorem Same_ok (c : Bool) (p q : Prg) (hs : p.states.length < 2 ^ 30) (hf : p.fns.length < 2 ^ 30) (hp : ∀ f ∈ p.fns, plB f.body = true /\ f.body.length < 2 ^ 30 /\ f.params.length < 2 ^ 30 /\ f.locals.length < 2 ^ 30) (h : samP c p q = true) :
  Ret prog hE0 [p.V, q.V, vB c] (vB true) := by
 unfold samP at h
 simp only [Bool.and_eq_true, decide_eq_true_eq] at h
 obtain ⟨⟨hv, hS⟩, hF⟩ := h
 obtain ⟨hlen, hg⟩ := samFs_get hF
 have hS' := lP0 c _ _ hs hS
 refine cm0 kW0 (by simp) ?_
 refine rS2 @gK0.eq_1 hv ?_
 refine ak0 ?_; simp; refine ah0 (hS') (by simp) ?_
 refine rS1 hlen ?_
 refine aN0 q.fns.length (fun i => [(37, vI i), (36, vI q.fns.length), (2, vB c), (3, .bp (.l 3 0) 0), (4, .bp (.l 4 0) 0)]) (fun i => [(.l 3 0, .box p.cells), (.l 4 0, .box q.cells)]) (Wk.subs (by simp [hlen]) (by simp)) ?_
 intro i hi
 by_cases hlt : i < q.fns.length
 ·have hlt' : (i : Int) < q.fns.length := by omega
  have hlt2 : i < p.fns.length := by omega
  have hlt3 : (i : Int) < p.fns.length := by omega
  obtain ⟨⟨e1, e2, e3, e4⟩, ha, hP, hB⟩ := sD0 (hg i hlt2 hlt)
  obtain ⟨b1, b2, b3, b4⟩ := hp _ (List.getElem_mem hlt2)
  have hS2 := lP0 c _ _ b3 hP
  have hB2 := pu0 c _ _ _ (Nat.lt_succ_self _) b1 b2 hB
  rw [e4] at b4
  cases c
  ·skip
   simp +contextual (maxSteps := 2000000) (disch := omega) [-Int.not_lt, -Int.not_le, -Nat.not_lt, -Nat.not_le, sx, hlt', hlt2, hlt3, e1, e2, e3, e4]
   refine ak0 ?_; simp; refine ah0 (hS2) (by simp) ?_
   refine rS1 e4 ?_
   refine aN0 q.fns[i].locals.length (fun k => [(100, vI k), (99, vI q.fns[i].locals.length), (37, vI i), (36, vI q.fns.length), (2, vB false), (3, .bp (.l 3 0) 0), (4, .bp (.l 4 0) 0), (8, .bp (.l 8 0) 0), (9, .bp (.l 9 0) 0)])
    (fun k => [(.l 3 0, .box p.cells), (.l 4 0, .box q.cells), (.l 8 0, .box p.fns[i].cells), (.l 9 0, .box q.fns[i].cells)]) (Wk.subs (by simp [e4]) (by simp)) ?_
   intro k hk
   by_cases hkl : k < q.fns[i].locals.length
   ·have hkl' : (k : Int) < q.fns[i].locals.length := by omega
    refine rS2 hkl' e4 ?_
    exact .of hkl (Wk.subs (by simp) (by simp))
   ·have hkg : ¬ (k : Int) < q.fns[i].locals.length := by omega
    refine rS1 hkg ?_
    refine ak0 ?_; simp; refine ah0 (hB2) (by simp) ?_
    refine rS0 ?_
    exact .of hlt (Wk.subs (by simp) (by simp))
  ·have ha : p.fns[i].at_ = q.fns[i].at_ := ha.resolve_left (by simp)
   simp +contextual (maxSteps := 2000000) (disch := omega) [-Int.not_lt, -Int.not_le, -Nat.not_lt, -Nat.not_le, sx, hlt', hlt2, hlt3, e1, e2, e3, e4, ha]
   refine ak0 ?_; simp; refine ah0 (hS2) (by simp) ?_
   refine rS2 e4 ha ?_
   refine aN0 q.fns[i].locals.length (fun k => [(100, vI k), (99, vI q.fns[i].locals.length), (37, vI i), (36, vI q.fns.length), (2, vB true), (3, .bp (.l 3 0) 0), (4, .bp (.l 4 0) 0), (8, .bp (.l 8 0) 0), (9, .bp (.l 9 0) 0)])
    (fun k => [(.l 3 0, .box p.cells), (.l 4 0, .box q.cells), (.l 8 0, .box p.fns[i].cells), (.l 9 0, .box q.fns[i].cells)]) (Wk.subs (by simp [e4]) (by simp)) ?_
   intro k hk
   by_cases hkl : k < q.fns[i].locals.length
   ·have hkl' : (k : Int) < q.fns[i].locals.length := by omega
    refine rS2 hkl' e4 ?_
    exact .of hkl (Wk.subs (by simp) (by simp))
   ·have hkg : ¬ (k : Int) < q.fns[i].locals.length := by omega
    refine rS1 hkg ?_
    refine ak0 ?_; simp; refine ah0 (hB2) (by simp) ?_
    refine rS0 ?_
    exact .of hlt (Wk.subs (by simp) (by simp))
 ·have hge' : ¬ (i : Int) < q.fns.length := by omega
  exact rT1 hge'
end Go.Am
end

section
namespace Go.Am
set_option maxRecDepth 100000
def prgOf : LxR Prg -> Prg
 | .ok p => p
 | .bad _ _ => ⟨0, [], []⟩
theorem OkP.tells {p : Prg} {k : Nat} (h : OkP p k) (hk : k < 2 ^ 20) : p.tells :=
 ⟨h.v1, by have := h.sl; omega, by have := h.fl; omega, fun f hf => by obtain ⟨j, h1, h2⟩ := h.fs f hf; have := h1.ps; omega, fun f hf => by obtain ⟨j, h1, h2⟩ := h.fs f hf; have := h1.b; omega,
  fun f hf => by obtain ⟨j, h1, h2⟩ := h.fs f hf; exact h1.sz⟩
theorem shFun_sep {f : Fun} {t : Bs} (h : qp0 f = some t) {ps : List Bs} (hp : cR0 f.params = some ps) : (sepB ps).length <= t.length := by
 unfold qp0 at h
 rw [hp] at h
 split at h
 ·rename_i ps' b e1 e2
  injection e1 with e1; subst e1
  split at h
  ·injection h with h; subst h
   simp only [List.length_append]; omega
  ·cases h
 ·cases h
theorem show_ok {p : Prg} (h : OkP p 4097) : ∃ t, shP p = some t /\ t.length < 2 ^ 30 /\ Ret prog kn0 [p.V] (qo0 t) := by
 obtain ⟨a, h1, h2⟩ := h.st
 obtain ⟨b, h3, h4⟩ := h.ft
 have hi := Lib.itoa_length_le p.version (by have := h.v0; omega) (by have := h.v1; omega)
 have ht : shP p = some (cI0 ++ [32] ++ numB p.version ++ [59, 10] ++ a ++ b) := by unfold shP; rw [if_pos h.v0, h1, h3]
 have hl : (cI0 ++ [32] ++ numB p.version ++ [59, 10] ++ a ++ b).length < 2 ^ 30 := by
  simp only [List.length_append, List.length_cons, List.length_nil, cI0, numB]; omega
 refine ⟨_, ht, hl, l90 p (h.tells (by omega)) (fun f hf ps hps => ?_) ht (by omega)⟩
 obtain ⟨j, g1, g2⟩ := h.fs f hf
 obtain ⟨t, g3, g4⟩ := g1.sh
 have q := shFun_sep g3 hps
 have q2 := g1.ps
 obtain ⟨q3, -⟩ := gX0 hps
 exact Join_own ps (by omega) (by omega)
theorem okP0 : OkP ⟨0, [], []⟩ 4097 := ⟨by simp, by simp, by simp, by simp, ⟨[], by rw [cA0.eq_def], by simp⟩, ⟨[], by rw [gz0.eq_def], by simp⟩, fun f hf => by cases hf⟩
theorem prgOf_ok (s : Bs) : OkP (prgOf (o50 s)) 4097 := by
 cases h : o50 s with
 | ok p => exact read_ok h
 | bad a e => exact okP0
def atOf : LxR Prg -> Int
 | .ok _ => 0
 | .bad a _ => a
def errOf : LxR Prg -> Int
 | .ok _ => 0
 | .bad _ e => e
theorem parseV_of (r : LxR Prg) : i00 r = .tup [(prgOf r).V, vI (atOf r), vI (errOf r)] := by
 cases r <;> rfl
end Go.Am
end

section
namespace Go.Am
set_option maxRecDepth 100000
attribute [local irreducible] vc vcIs vcI vcOp vcD vcDp vcDR vcT vcAR bV0 aY0 panD neG ne pv J bH0 bM0 bY0 bd0 evK evsK nthK objK boxK rowK bz0 intK strK aggK fnK ifcK ay0 az0 ldK ldaK iaK srcK stK appK appD b00 pvK bC0 aW0 bL0 bs0 slAV bG0
theorem nB0 (s : ByteArray) (hs : s.size < 2 ^ 39) : Ret prog ew0 [vS s] (vB true) := by
 have hP := r10 s hs
 have ho := prgOf_ok (sB s)
 rw [parseV_of] at hP
 generalize atOf (o50 (sB s)) = x1 at hP
 generalize errOf (o50 (sB s)) = x2 at hP
 generalize prgOf (o50 (sB s)) = p at *
 obtain ⟨t, h1, h2, hS⟩ := show_ok ho
 have hM := Same_ok true p p (by have := ho.sl; omega) (by have := ho.fl; omega) (fun f hf => by
  obtain ⟨j, g1, g2⟩ := ho.fs f hf
  have := g1.b; have := g1.ps
  exact ⟨g1.sz, by omega, by omega, by rw [g1.lo]; simp⟩) (samP_refl true p)
 obtain ⟨u, v, hA⟩ : ∃ u v, qo0 t = .tup [vS u, vI v] := by unfold qo0; split <;> exact ⟨_, _, rfl⟩
 rw [hA] at hS
 refine at0 eh0 (by simp) ?_
 refine rS1 @dW0.eq_1 ?_
 refine ak0 ?_; simp; refine ah0 (sT0) (by simp) ?_
 refine rS0 ?_
 refine ak0 ?_; simp; refine ah0 (hP) (by simp) ?_
 refine rS0 ?_
 refine ak0 ?_; simp; refine ah0 (hP) (by simp) ?_
 refine rS0 ?_
 refine ak0 ?_; simp; refine ah0 (hS) (by simp) ?_
 refine rS0 ?_
 refine ak0 ?_; simp; refine ah0 (hS) (by simp) ?_
 refine rS0 ?_
 refine ak0 ?_; simp; refine ah0 (hM) (by simp) ?_
 refine rS0 ?_
 refine ax0 [] ?_
 exact rT0
end Go.Am
end

section
namespace Go.Proofs.YtnlggapedakocaaGreatDoor.showKeeps
open Go.ChangeShapes Go.WideShapes Go.ChangeAt Go.RowKit
open Go.Am (imW vI vB vS pP0)
set_option maxRecDepth 100000
def T8 (t : TypeId) : Prop := t = 9
theorem flat8 : ∀ t, T8 t -> Go.Am.rZ0 Tryz.prog T8 t := by
 intro t h
 obtain rfl : t = 9 := h
 unfold Go.Am.rZ0
 rw [Tryz.underlying9]; trivial
theorem args8 : ∀ t ∈ Tryz.f7.params.toList, T8 t := by
 rw [Tryz.params7]; intro t ht; simp at ht; subst ht; rfl
theorem contract (H : Type) (enc : TypeId × Value -> H) (W : World) (base : Nat) (args : Array Value) (ds gs : List (DataW H)) (before : List MemPlace)
  (hval : ∀ (j : Nat) t v, Tryz.f7.params[j]? = some t -> args[j]? = some v -> Value.okWide Tryz.prog W .any base t v)
  (hW : DataW.Whole enc Tryz.prog Tryz.f7.params.toList Rows.showKeepsSpec.vars false W args.toList ds gs before) (hL : laidMetH Tryz.prog Rows.showKeepsRow.laid W) (hk : Rows.uptoSmall H (ds ++ gs) = true) :
  Calls Tryz.prog 7 args W fun e W' => ∃ v, e = .returned v /\ Rows.showKeepsSpec.post enc Tryz.prog Tryz.f7 false true false false W args v W' := by
 have hW' := hW
 obtain ⟨p, q, hA0, hV, rfl, hfz, hnd⟩ := hW
 have hA : DataW.TrodAll enc Tryz.prog W 0 (fun _ => true) true Tryz.f7.params.toList args.toList ds p := hA0
 rw [Tryz.params7] at hA hval
 obtain ⟨a0, vs0, d0, ds0, p0, q0, hargs, rfl, rfl, h0, r0⟩ := trodAll_cons hA
 obtain ⟨rfl, rfl, rfl⟩ := trodAll_nil r0
 obtain rfl : args = #[a0] := by cases args; simp_all
 obtain ⟨rfl, rfl⟩ := trodVars_none hV
 have hbk : Rows.uptoBulkAll ([d0] ++ []) <= 1048576 := of_decide_eq_true hk
 simp only [List.append_nil, Rows.uptoBulkAll] at hbk
 obtain ⟨s, rfl⟩ := okWide_string Tryz.underlying9 (hval 0 9 a0 rfl rfl)
 obtain ⟨n1, t1⟩ := h0
 obtain ⟨s', e1, e2, _⟩ := DataW.trod_string Tryz.underlying9 t1
 have e1' : s' = s := by simpa [Value.cells] using e1.symm
 subst e1'
 obtain rfl : d0 = .lit (.string s'.data.toList) := by injection e2
 have hsz : s'.size < 2 ^ 39 := by
  have : s'.data.toList.length = s'.size := rfl
  simp only [Rows.uptoBulk] at hbk
  omega
 have hret := Go.Am.nB0 s' hsz
 have hcalled := hret (imW W) Go.Am.Mu.bot #[.string s'] W
  ⟨rfl, fun j u hj => by
   match j, hj with
   | 0, hj => injection hj with hj; subst hj; exact .c _
   | j + 1, hj => simp at hj⟩ (Go.Am.wd_imW (table hL))
 obtain ⟨fn, c, k1, k2, k3, _⟩ := Go.Am.eh0.ex
 have hrun : (callFunc 7 #[.string s']).run Tryz.prog W = .ok (.enter 7 #[.string s']) W := by
  have k2' : ¬ fn.name = "runtime.NumGoroutine" := by simpa using k2
  simp [callFunc, k1, k2', k3]
 unfold Go.Am.dF0 at hcalled
 rw [hrun] at hcalled
 refine Calls.mono hcalled ?_
 rintro e W' ⟨r, H', μ', rfl, ⟨x, rfl, hx⟩, hNj, hWd, _, _⟩
 obtain rfl := hx.bP0
 have hkeep : ∀ b, b < W.heap.size -> W'.heap[b]? = W.heap[b]? := fun b hb => hNj.keep b hb (by simp [Go.Am.Owns, Go.Am.hpE])
 refine ⟨_, rfl, _, _, _, [], p0 ++ [], [], hW', ?_, ?_, rfl, ?_, fun h => by cases h⟩
 ·exact trodAll_cons_mk (shut_bool Tryz.underlying4 _) trodAll_mk0
 ·exact Go.Am.ma0 flat8 hkeep args8 hA0 fun p hp => by
   have := hW'.lt p (by simpa using hp)
   simpa using this
 ·refine ⟨hNj.os, hNj.output, fun i hi => ?_⟩
  rw [hkeep i hi]
  split
  ·rename_i e1 e2
   rw [e1] at e2
   injection e2 with e2
   injection e2 with e3 e4 e5
   subst e3 e4 e5
   exact ⟨rfl, rfl, rfl, fun _ _ => rfl⟩
  ·rename_i e1 e2
   rw [e1] at e2
   injection e2 with e2
   injection e2 with e3 e4
   exact .inr ⟨e3.symm, e4.symm⟩
  ·rfl
end Go.Proofs.YtnlggapedakocaaGreatDoor.showKeeps
end

section
namespace Go.Proofs.YtnlggapedakocaaGreatDoor.showKeeps
open Go.ChangeShapes Go.WideShapes Go.ChangeAt Go.RowKit
set_option maxRecDepth 100000
def cellsP (d : DataW Unit) : List Value := match d with | .lit (.int k n) => [Value.int k n] | .agg ps => ps.map fun d => (match d with | .lit (.int k n) => Value.int k n | _ => Value.bool false) | _ => []
def cellsD : DataW Unit -> Array Value
 | .agg ps => (ps.flatMap cellsP).toArray
 | _ => #[]
def lay (o : Obj) (d : DataW Unit) : Obj := match o with | .cells _ t frozen => .cells (cellsD d) t frozen | o => o
noncomputable def m30 (os : Os) : World :=
 { World.holding Tryz.prog os ⟨#[], #[], []⟩ with heap := (((((World.holding Tryz.prog os ⟨#[], #[], []⟩).heap.modify 0 fun o => lay o Rows.laid_internal_strconv_uint64pow10).modify 2 fun o => lay o Rows.laid_math_bits_deBruijn32tab).modify 3 fun o => lay o Rows.laid_math_bits_deBruijn64tab).modify 4 fun o => lay o Rows.laid_unicode_utf8_first).modify 5 fun o => lay o Rows.laid_unicode_utf8_acceptRanges }
abbrev wargs : Array Value := #[.string ⟨#[]⟩]
theorem laid_met (os : Os) : laidMet Tryz.prog Rows.showKeepsRow.laid ((m30 os).forCall (fun _ _ => 0) ⟨#[], wargs, []⟩).memory :=
 laidMet_of_run' 8 (by kernel_rfl) (by kernel_rfl)
theorem reads (os : Os) {H : Type} (enc : TypeId × Value -> H) : ∃ places, DataW.whole enc Tryz.prog ((m30 os).forCall (fun _ _ => 0) ⟨#[], wargs, []⟩).memory Tryz.f7.params.toList Rows.showKeepsSpec.vars false wargs.toList 8 =
  some ([.lit (.string [])], [], places) :=
 ⟨[], by kernel_rfl⟩
theorem su0 (os : Os) (started : os.Started) (H : Type) (enc : TypeId × Value -> H) (F : Stop.Interp) :
  ReturnsInHanded {} Tryz.checked os 7 .any ((Rows.OpenSpec.upto Rows.showKeepsSpec).preRow enc Tryz.prog Tryz.f7 Rows.showKeepsUptoRow.domain false Rows.showKeepsUptoRow.laid) (((Rows.OpenSpec.upto Rows.showKeepsSpec).at F).post enc Tryz.prog Tryz.f7 false true false false) := by
 obtain ⟨places, hx⟩ := reads os enc
 refine returnsInHanded_of_row (C := Tryz.checked) (s := Rows.OpenSpec.upto Rows.showKeepsSpec) own started (by kernel_rfl) Tryz.func7
  (witness_row_at (enc := enc) (C := Tryz.checked) false (m30 os) wargs rfl (by kernel_rfl) (by kernel_rfl) (by kernel_rfl)
   (OpenSpec.preRow_of_cond 8 hx (by kernel_rfl) (fun k hk => by cases hk; kernel_rfl) (by kernel_rfl) (laid_met os))) ?_
 intro W base args ds gs before hval hW _ hcond _ hL _ _
 exact contract H enc W base args ds gs before hval hW hL (hcond _ rfl)
theorem saidUpto : Rows.ShowKeepsUptoSaid :=
 OpenClaim.holds_of_cond 7 Tryz.f7 rfl rfl rfl rfl rfl rfl rfl ⟨rfl, rfl, rfl, rfl, rfl⟩ rfl rfl rfl rfl rfl (by kernel_rfl) Tryz.func7 (by kernel_rfl)
  (of_decide_eq_true (by kernel_rfl)) (by unfold Func.isWrapper; first | (rw [if_pos (by decide +kernel)]; kernel_rfl) | (rw [if_neg (by decide +kernel)]; exact ⟨rfl, rfl⟩))
  (fun os started H enc _ F => by rw [OpenClaim.pre_eq_preRow]; exact su0 os started H enc F)
theorem plain (f : FuncId) (fn : Func) (hf : Tryz.pinned.checked.prog.funcNamed "quern/quernlaw08.ShowKeeps" = some f) (hfn : Tryz.pinned.checked.prog.funcs[f]? = some fn) :
  true = Tryz.pinned.checked.prog.looks [] /\ ∀ (j : Nat) t, fn.params[j]? = some t -> Tryz.pinned.checked.prog.wantsStandIn t = false := by
 obtain rfl : f = 7 := Option.some.inj ((show Tryz.prog.funcNamed "quern/quernlaw08.ShowKeeps" = some 7 by kernel_rfl).symm.trans hf) |>.symm
 obtain rfl : fn = Tryz.f7 := (Option.some.inj (Tryz.func7.symm.trans hfn)).symm
 refine ⟨by kernel_rfl, fun j t ht => ?_⟩
 rw [Tryz.params7] at ht
 have hm := Array.mem_of_getElem? ht
 simp at hm
 subst hm
 exact (show Tryz.prog.wantsStandIn 9 = false by kernel_rfl)
theorem cardUpto : Rows.ShowKeepsUptoCardSaid :=
 Claim7.holds_tied_plain_at .later [] _ _ _ _ saidUpto (fun _ h => by cases h) (by kernel_rfl) (fun _ h => by cases h) showKeepsUpto_row_tie rfl ⟨rfl, rfl⟩ (by kernel_rfl) rfl plain (by kernel_rfl)
end Go.Proofs.YtnlggapedakocaaGreatDoor.showKeeps
end
