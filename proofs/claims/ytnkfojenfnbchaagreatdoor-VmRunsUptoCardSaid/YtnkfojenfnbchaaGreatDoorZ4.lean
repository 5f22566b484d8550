/- VmRuns of the given program, part 4 of 6 of the proof: for all arguments within the bound the law answers true, and each argument reads behind the call as before. Conditions: those of the given card. -/
import Derived.Test.YtnkfojenfnbchaaGreatDoorZ3
import Derived.Defers
import Derived.Recover
import Derived.Lib.Overlaps
import Derived.Shelf.Strconv.Itoa4
import Derived.Test.YtnkfojenfnbchaaGreatDoorProg
set_option linter.all false
set_option linter.unusedVariables false
set_option linter.unusedSimpArgs false
set_option linter.unnecessarySimpa false
section
namespace Go.Am
set_option maxRecDepth 100000
attribute [local irreducible] vc vcIs vcI vcOp vcD vcDp vcDR vcT vcAR bp0 aK0 panD neG ne pv J bm0 bl0 bt0 aS0 evK evsK nthK objK boxK rowK bg0 intK strK aggK fnK ifcK aw0 at0 ldK ldaK iaK srcK stK appK appD bv0 pvK br0 aF0 bk0
theorem cmpB_eq : ∀ (a b : List UInt8), a = b -> Lib.compareBytes a b = 0
 | [], _, rfl => rfl
 | x :: xs, _, rfl => by
  have := cmpB_eq xs xs rfl
  simp [Lib.compareBytes, this, UInt8.lt_irrefl]
theorem cmpB_ne : ∀ (a b : List UInt8), a ≠ b -> Lib.compareBytes a b = if Op.bytesLess a b then -1 else 1
 | [], [], h => absurd rfl h
 | [], _ :: _, _ => by simp [Lib.compareBytes, Op.bytesLess]
 | _ :: _, [], _ => by simp [Lib.compareBytes, Op.bytesLess]
 | x :: xs, y :: ys, h => by
  unfold Lib.compareBytes Op.bytesLess
  by_cases h1 : x < y
  ·simp [h1]
  ·by_cases h2 : y < x
   ·have : ¬ x = y := fun e => by subst e; exact h1 h2
    simp [h1, h2, this]
   ·have e : x = y := by
     apply UInt8.toNat_inj.1
     rw [UInt8.lt_iff_toNat_lt] at h1 h2; omega
    subst e
    have := cmpB_ne xs ys (by rintro rfl; exact h rfl)
    simp [h1, this]
theorem cmpS (a b : ByteArray) : Lib.compareBytes a.data.toList b.data.toList = if a = b then 0 else if ltS a b then -1 else 1 := by
 by_cases h : a = b
 ·subst h; simp [cmpB_eq]
 ·rw [if_neg h, cmpB_ne _ _ (fun e => h ?_)]; rfl
  cases a; cases b; simp at e; simp [e]
theorem ei0 (v : Val) : v.wt < 2 ^ 62 -> Ret prog fd0 [v.V] (vI v.wt) := by
 induction v using Val.induct with
 | h v ih =>
 intro h
 have hw := v.cB0
 have hlen := Val.be0 v.list
 refine af0 jj0 (by simp) ?_
 simp +contextual (maxSteps := 2000000) (disch := omega) [-Int.not_lt, -Int.not_le, -Nat.not_lt, -Nat.not_le, sx, eI0]
 refine aA0 v.list.length
  (fun i => [(13, vI i), (12, vI v.list.length), (11, ay0 v.list), (3, vI ((1 + v.text.size + Val.wtL (v.list.take i) : Nat) : Int)), (2, vI 0), (1, .bp (.l 1 0) 0)])
  (fun _ => [(.l 1 0, .box v.cells)]) (Wk.subs (by simp [Val.wtL]) (by simp)) ?_
 intro i hi
 simp +contextual (maxSteps := 2000000) (disch := omega) [-Int.not_lt, -Int.not_le, -Nat.not_lt, -Nat.not_le, sx]
 refine ⟨fun hlt => ?_, fun hge => ?_⟩
 ·have hx := ih _ (List.getElem_mem hlt)
  have hxw := Val.aR0 (List.getElem_mem hlt)
  have htk := Val.qd0 v.list i hlt
  have hle := Val.wtL_le v.list (i + 1)
  refine ab0 ?_; simp; refine aa0 (hx (by omega)) (by simp) ?_
  simp +contextual (maxSteps := 2000000) (disch := omega) [-Int.not_lt, -Int.not_le, -Nat.not_lt, -Nat.not_le, sx]
  refine .of hlt (Wk.subs (by simp; omega) (by simp))
 ·rw [List.take_of_length_le (by omega)]; omega
theorem mH0 (f : Val -> Val -> Int) : ∀ (a b : List Val), (∀ (i : Nat) (h1 : i < a.length) (h2 : i < b.length), f a[i] b[i] = 0) -> b70 f a b = if a.length < b.length then -1 else if b.length < a.length then 1 else 0
 | [], [], _ => rfl
 | [], _ :: _, _ => by simp [b70]
 | _ :: _, [], _ => by simp [b70]
 | x :: xs, y :: ys, h => by
  have h0 := h 0 (by simp) (by simp)
  simp at h0
  have := mH0 f xs ys fun i h1 h2 => h (i + 1) (by simpa using h1) (by simpa using h2)
  simp [b70, h0, this]
theorem aq0 (v : Val) : ∀ u : Val, v.wt < 2 ^ 40 -> u.wt < 2 ^ 40 -> Ret prog eO0 [v.V, u.V] (vI (v.cmp u)) := by
 induction v using Val.induct with
 | h v ih =>
 intro u hv hu
 have hs := v.gw0 hv
 have hs' := u.gw0 hu
 have hw := v.cB0
 have hw' := u.cB0
 have hc := Val.cmp_eq v u
 simp only [cmpS, Val.cmpL_eq] at hc
 refine af0 iA0 (by simp) ?_
 by_cases hk : v.kind = u.kind
 ·by_cases hn : v.num = u.num
  ·by_cases ht : v.text = u.text
   ·have hc : v.cmp u = b70 Val.cmp v.list u.list := by rw [hc]; simp [orI, cmpI, hk, hn, ht]; intro h; exact h.symm
    simp +contextual (maxSteps := 2000000) (disch := omega) [-Int.not_lt, -Int.not_le, -Nat.not_lt, -Nat.not_le, sx, bC0, hk, hn, ht]
    refine ap0 (fun i : Nat => v.list.length - i) (fun i => [(5, vI i), (2, .bp (.l 2 0) 0), (3, .bp (.l 3 0) 0)]) (fun _ => [(.l 2 0, .box v.cells), (.l 3 0, .box u.cells)])
     (fun i => i <= v.list.length /\ i <= u.list.length /\ ∀ (j : Nat) (h1 : j < v.list.length) (h2 : j < u.list.length), j < i -> (v.list[j]).cmp u.list[j] = 0) 0 (by simp) (Wk.subs (by simp) (by simp)) ?_
    rintro i ⟨hi1, hi2, ho⟩
    have heq : b70 Val.cmp v.list u.list = b70 Val.cmp (v.list.drop i) (u.list.drop i) := by
     clear hc
     induction i with
     | zero => simp
     | succ i ihi =>
      rw [ihi (by omega) (by omega) fun j h1 h2 h3 => ho j h1 h2 (by omega), List.drop_eq_getElem_cons (by omega : i < v.list.length), List.drop_eq_getElem_cons (by omega : i < u.list.length), b70, if_neg (by simp [ho i (by omega) (by omega) (by omega)])]
    simp +contextual (maxSteps := 2000000) (disch := omega) [-Int.not_lt, -Int.not_le, -Nat.not_lt, -Nat.not_le, sx]
    refine ⟨fun h1 => ⟨fun h2 => ?_, fun h2 => ?_⟩, fun h1 => ?_⟩
    ·have d1 : v.list.drop i = v.list[i] :: v.list.drop (i + 1) := List.drop_eq_getElem_cons h1
     have d2 : u.list.drop i = u.list[i] :: u.list.drop (i + 1) := List.drop_eq_getElem_cons h2
     rw [d1, d2, b70] at heq
     have hx := Val.aR0 (List.getElem_mem h1)
     have hy := Val.aR0 (List.getElem_mem h2)
     refine ab0 ?_; simp; refine aa0 (ih _ (List.getElem_mem h1) _ (by omega) (by omega)) (by simp) ?_
     simp +contextual (maxSteps := 2000000) (disch := omega) [-Int.not_lt, -Int.not_le, -Nat.not_lt, -Nat.not_le, sx]
     refine ⟨fun hne => ?_, fun he => ?_⟩
     ·rw [hc, heq, if_pos hne]
     ·refine .of (i + 1) ⟨by omega, by omega, fun j q1 q2 q3 => ?_⟩ (by omega) (Wk.subs (by simp) (by simp))
      by_cases hj : j = i
      ·subst hj; simpa using he
      ·exact ho j q1 q2 (by omega)
    ·have e : i = u.list.length := by omega
     have := mH0 Val.cmp v.list u.list fun j q1 q2 => ho j q1 q2 (by omega)
     rw [hc, this]
     simp +contextual (maxSteps := 2000000) (disch := omega) [-Int.not_lt, -Int.not_le, -Nat.not_lt, -Nat.not_le, sx]
    ·have e : i = v.list.length := by omega
     have := mH0 Val.cmp v.list u.list fun j q1 q2 => ho j q1 q2 (by omega)
     rw [hc, this]
     simp +contextual (maxSteps := 2000000) (disch := omega) [-Int.not_lt, -Int.not_le, -Nat.not_lt, -Nat.not_le, sx]
   ·have hc : v.cmp u = if ltS v.text u.text then -1 else 1 := by rw [hc]; by_cases hl : ltS v.text u.text <;> simp [orI, cmpI, hk, hn, ht, hl]
    simp +contextual (maxSteps := 2000000) (disch := omega) [-Int.not_lt, -Int.not_le, -Nat.not_lt, -Nat.not_le, sx, bC0, hk, hn, ht, hc]
  ·have hc : v.cmp u = if v.num < u.num then -1 else 1 := by
    rw [hc]; by_cases hl : v.num < u.num
    ·simp [orI, cmpI, hk, hl]
    ·have : u.num < v.num := by omega
     simp [orI, cmpI, hk, hl, this]
   simp +contextual (maxSteps := 2000000) (disch := omega) [-Int.not_lt, -Int.not_le, -Nat.not_lt, -Nat.not_le, sx, bC0, hk, hn, hc]
 ·have hc : v.cmp u = if v.kind < u.kind then -1 else 1 := by
   rw [hc]; by_cases hl : v.kind < u.kind
   ·simp [orI, cmpI, hl]
   ·have : u.kind < v.kind := by omega
    simp [orI, cmpI, hl, this]
  simp +contextual (maxSteps := 2000000) (disch := omega) [-Int.not_lt, -Int.not_le, -Nat.not_lt, -Nat.not_le, sx, bC0, hk, hc]
theorem ft0 (v u : Val) (hv : v.wt < 2 ^ 40) (hu : u.wt < 2 ^ 40) : Ret prog ea0 [v.V, u.V] (vB (v.cmp u == 0)) := by
 refine af0 kC0 (by simp) ?_
 simp +contextual (maxSteps := 2000000) (disch := omega) [-Int.not_lt, -Int.not_le, -Nat.not_lt, -Nat.not_le, sx, fH0]
 refine ab0 ?_; simp; refine aa0 (aq0 v u hv hu) (by simp) ?_
 simp +contextual (maxSteps := 2000000) (disch := omega) [-Int.not_lt, -Int.not_le, -Nat.not_lt, -Nat.not_le, sx]
theorem cv0 (v : Val) (hv : v.wt < 2 ^ 62) : Ret prog fT0 [v.V] (.tup [(bounded v).1.V, vI (bounded v).2]) := by
 refine af0 j00 (by simp) ?_
 simp +contextual (maxSteps := 2000000) (disch := omega) [-Int.not_lt, -Int.not_le, -Nat.not_lt, -Nat.not_le, sx, e70]
 refine ab0 ?_; simp; refine aa0 (ei0 v hv) (by simp) ?_
 simp +contextual (maxSteps := 2000000) (disch := omega) [-Int.not_lt, -Int.not_le, -Nat.not_lt, -Nat.not_le, sx]
 (repeat' (first | apply And.intro | intro _))
 all_goals simp [bounded, Val.zero, *]
theorem mG0 (a b : Int) : cmpI a b = 0 ↔ a = b := by
 unfold cmpI; split
 ·constructor <;> intro h <;> omega
 ·split
  ·constructor <;> intro h <;> omega
  ·constructor <;> intro h <;> omega
theorem oM0 (f : Val -> Val -> Int) : ∀ (a b : List Val), (∀ x ∈ a, ∀ y ∈ b, f x y = 0 ↔ x = y) -> (b70 f a b = 0 ↔ a = b)
 | [], [], _ => by simp [b70]
 | [], _ :: _, _ => by simp [b70]
 | _ :: _, [], _ => by simp [b70]
 | x :: xs, y :: ys, h => by
  have h0 := h x (by simp) y (by simp)
  have ih := oM0 f xs ys fun a ha b hb => h a (by simp [ha]) b (by simp [hb])
  by_cases e : f x y = 0
  ·have exy := h0.1 e
   subst exy
   simp [b70, e, ih]
  ·have : x ≠ y := fun q => e (h0.2 q)
   simp [b70, e, this]
theorem Val.ext' {v u : Val} (h1 : v.kind = u.kind) (h2 : v.num = u.num) (h3 : v.text = u.text) (h4 : v.list = u.list) : v = u := by
 cases v; cases u; simp_all [Val.kind, Val.num, Val.text, Val.list]
theorem Val.c90 (v : Val) : ∀ u : Val, v.cmp u = 0 ↔ v = u := by
 induction v using Val.induct with
 | h v ih =>
 intro u
 have hl := oM0 Val.cmp v.list u.list fun x hx y _ => ih x hx y
 rw [Val.cmp_eq, Val.cmpL_eq, cmpS]
 constructor
 ·intro h
  simp only [orI] at h
  by_cases h1 : cmpI v.kind u.kind = 0
  ·by_cases h2 : cmpI v.num u.num = 0
   ·by_cases h3 : v.text = u.text
    ·simp [h1, h2, h3] at h
     by_cases h4 : b70 Val.cmp v.list u.list = 0
     ·exact Val.ext' ((mG0 _ _).1 h1) ((mG0 _ _).1 h2) h3 (hl.1 h4)
     ·simp [h4] at h
    ·by_cases h5 : ltS v.text u.text <;> simp [h1, h2, h3, h5] at h
   ·simp [h1, h2] at h
  ·simp [h1] at h
 ·rintro rfl
  have := hl.2 rfl
  simp [orI, cmpI, this]
instance : DecidableEq Val := fun v u => decidable_of_iff _ (Val.c90 v u)
theorem da0 (v u : Val) (hv : v.wt < 2 ^ 40) (hu : u.wt < 2 ^ 40) : Ret prog ea0 [v.V, u.V] (vB (decide (v = u))) := by
 have := ft0 v u hv hu
 have e : (v.cmp u == 0) = decide (v = u) := by
  rw [Bool.eq_iff_iff]; simp [Val.c90]
 rwa [e] at this
theorem Val.gy0 {l : List Val} {b i : Nat} {h : i < l.length} (hl : Val.wtL l < b) : l[i].wt < b := by
 have := Val.aR0 (List.getElem_mem h); omega
theorem dP0 (a b : List Val) (ha : Val.wtL a < 2 ^ 40) (hb : Val.wtL b < 2 ^ 40) : Ret prog eP0 [ay0 a, ay0 b] (vB (decide (a = b))) := by
 have la := Val.be0 a
 have lb := Val.be0 b
 refine af0 iB0 (by simp) ?_
 simp +contextual (maxSteps := 2000000) (disch := omega) [-Int.not_lt, -Int.not_le, -Nat.not_lt, -Nat.not_le, sx, en0]
 refine ⟨fun h => ?_, fun hlen => ?_⟩
 ·rintro rfl; exact absurd rfl h
 have hlen : a.length = b.length := by omega
 refine ap0 (fun i : Nat => a.length - i) (fun i => [(13, vI i), (12, vI a.length), (0, ay0 a), (1, ay0 b)]) (fun _ => []) (fun i => i <= a.length /\ ∀ (j : Nat) (h1 : j < a.length) (h2 : j < b.length), j < i -> a[j] = b[j]) 0 (by simp) (Wk.subs (by simp [hlen]) (by simp)) ?_
 rintro i ⟨hi, ho⟩
 simp +contextual (maxSteps := 2000000) (disch := omega) [-Int.not_lt, -Int.not_le, -Nat.not_lt, -Nat.not_le, sx]
 refine ⟨fun hlt => ?_, fun hge => ?_⟩
 ·refine ab0 ?_; simp; refine aa0 (da0 a[i] (b[i]'(by omega)) (Val.gy0 ha) (Val.gy0 hb)) (by simp) ?_
  simp +contextual (maxSteps := 2000000) (disch := omega) [-Int.not_lt, -Int.not_le, -Nat.not_lt, -Nat.not_le, sx]
  refine ⟨fun he => ?_, fun hne => ?_⟩
  rotate_left
  ·rintro rfl; exact hne rfl
  ·refine .of (i + 1) ⟨by omega, fun j h1 h2 h3 => ?_⟩ (by omega) (Wk.subs (by simp) (by simp))
   by_cases hj : j = i
   ·subst hj; exact he
   ·exact ho j h1 (by omega) (by omega)
 ·exact List.ext_getElem hlen fun j h1 h2 => ho j h1 h2 (by omega)
theorem ao0 (v : Val) : v.wt < 2 ^ 40 -> Ret prog dY0 [v.V] v.V := by
 induction v using Val.induct with
 | h v ih =>
 intro h
 have hw := v.cB0
 have hlen := Val.be0 v.list
 refine af0 gb0 (by simp) ?_
 simp +contextual (maxSteps := 2000000) (disch := omega) [-Int.not_lt, -Int.not_le, -Nat.not_lt, -Nat.not_le, sx, dr0]
 refine aA0 v.list.length
  (fun i => [(16, vI i), (15, vI v.list.length), (14, ay0 v.list), (3, .bp (.l 3 0) 0), (2, .bp (.l 2 0) 0)])
  (fun i => [(.l 999 0, .row ac0 4 true ((v.list.take i).map Val.cells)), (.l 3 0, .box [vI v.kind, vI v.num, vS v.text, .arr (.l 999 0) 0 i]), (.l 2 0, .box [vI 0, vI 0, vS noS, .nil])])
  (Wk.trans (Wk.subs (by simp) (by simp)) (Wk.rowB (b := .l 3 0) (id := .l 999 0) (off := 3) (ty := ac0) (sz := 4) rfl rfl (by simp) (by simp))) ?_
 intro i hi
 simp +contextual (maxSteps := 2000000) (disch := omega) [-Int.not_lt, -Int.not_le, -Nat.not_lt, -Nat.not_le, sx]
 refine ⟨fun hlt => ?_, fun hge => ?_⟩
 ·have hx := ih _ (List.getElem_mem hlt)
  have hxw := Val.aR0 (List.getElem_mem hlt)
  refine al0 ?_; simp; refine aa0 (hx (by omega)) (by simp) ?_
  simp +contextual (maxSteps := 2000000) (disch := omega) [-Int.not_lt, -Int.not_le, -Nat.not_lt, -Nat.not_le, sx]
  exact .of hlt (Wk.rens (.l 25 0) (.l 999 0) rfl (by simp) (by simp [renF]) (by simp [renF, bw0]))
 ·have : i = v.list.length := by omega
  subst this
  simp +contextual (maxSteps := 2000000) (disch := omega) [-Int.not_lt, -Int.not_le, -Nat.not_lt, -Nat.not_le, sx]
theorem od0 (l : List Val) (hl : Val.wtL l < 2 ^ 40) : Ret prog hH0 [ay0 l] (ay0 l) := by
 have hlen := Val.be0 l
 refine af0 iD0 (by simp) ?_
 simp +contextual (maxSteps := 2000000) (disch := omega) [-Int.not_lt, -Int.not_le, -Nat.not_lt, -Nat.not_le, sx, fN0]
 refine aA0 l.length (fun i => [(8, vI i), (7, vI l.length), (6, ay0 l), (3, .arr (.l 16 0) 0 i)]) (fun i => [(.l 16 0, .row ac0 4 true ((l.take i).map Val.cells))])
  (Wk.trans (Wk.subs (by simp) (by simp)) (Wk.row (s := 3) (id := .l 16 0) (ty := ac0) (sz := 4) rfl)) ?_
 intro i hi
 simp +contextual (maxSteps := 2000000) (disch := omega) [-Int.not_lt, -Int.not_le, -Nat.not_lt, -Nat.not_le, sx]
 refine ⟨fun hlt => ?_, fun hge => ?_⟩
 ·refine ab0 ?_; simp; refine aa0 (aW0 _ (Val.gy0 hl)) (by simp) ?_
  simp +contextual (maxSteps := 2000000) (disch := omega) [-Int.not_lt, -Int.not_le, -Nat.not_lt, -Nat.not_le, sx]
  exact .of hlt (Wk.subs (by simp) (by simp))
 ·have : i = l.length := by omega
  subst this
  simp +contextual (maxSteps := 2000000) (disch := omega) [-Int.not_lt, -Int.not_le, -Nat.not_lt, -Nat.not_le, sx]
theorem bI0 (l : List Val) (hl : Val.wtL l < 2 ^ 40) : Ret prog cf0 [ay0 l] (ay0 l) := by
 have hlen := Val.be0 l
 refine af0 cK0 (by simp) ?_
 simp +contextual (maxSteps := 2000000) (disch := omega) [-Int.not_lt, -Int.not_le, -Nat.not_lt, -Nat.not_le, sx, b10]
 refine aA0 l.length (fun i => [(8, vI i), (7, vI l.length), (6, ay0 l), (3, .arr (.l 16 0) 0 i)]) (fun i => [(.l 16 0, .row ac0 4 true ((l.take i).map Val.cells))])
  (Wk.trans (Wk.subs (by simp) (by simp)) (Wk.row (s := 3) (id := .l 16 0) (ty := ac0) (sz := 4) rfl)) ?_
 intro i hi
 simp +contextual (maxSteps := 2000000) (disch := omega) [-Int.not_lt, -Int.not_le, -Nat.not_lt, -Nat.not_le, sx]
 refine ⟨fun hlt => ?_, fun hge => ?_⟩
 ·refine ab0 ?_; simp; refine aa0 (ao0 _ (Val.gy0 hl)) (by simp) ?_
  simp +contextual (maxSteps := 2000000) (disch := omega) [-Int.not_lt, -Int.not_le, -Nat.not_lt, -Nat.not_le, sx]
  exact .of hlt (Wk.subs (by simp) (by simp))
 ·have : i = l.length := by omega
  subst this
  simp +contextual (maxSteps := 2000000) (disch := omega) [-Int.not_lt, -Int.not_le, -Nat.not_lt, -Nat.not_le, sx]
theorem nT0 (p : Val -> Bool) (g : Nat) (caps : List V) (l : List Val) (hc : qy0 caps = true) (hl : l.length < 2 ^ 40) (hp : ∀ x ∈ l, Ret prog g (x.V :: caps) (vB (p x))) :
  Ret prog aV0 [ay0 l, .fn g caps] (vI (match l.findIdx? p with | some i => (i : Int) | none => -1)) := by
 refine af0 bA0 (by simp) ?_
 simp +contextual (maxSteps := 2000000) (disch := omega) [-Int.not_lt, -Int.not_le, -Nat.not_lt, -Nat.not_le, sx, aT0]
 refine ap0 (fun i : Nat => l.length - i) (fun i => [(8, vI i), (7, vI l.length), (0, ay0 l), (1, .fn g caps)]) (fun _ => []) (fun i => i <= l.length /\ ∀ (j : Nat) (h : j < l.length), j < i -> p l[j] = false) 0 (by simp) (Wk.subs (by simp) (by simp)) ?_
 rintro i ⟨hi, ho⟩
 simp +contextual (maxSteps := 2000000) (disch := omega) [-Int.not_lt, -Int.not_le, -Nat.not_lt, -Nat.not_le, sx]
 refine ⟨fun hlt => ?_, fun hge => ?_⟩
 ·refine if0 (hp _ (List.getElem_mem hlt)) rfl rfl (by simp [kx0 hc]) (by simp [iy0 hc]) (by simp) ?_
  simp +contextual (maxSteps := 2000000) (disch := omega) [-Int.not_lt, -Int.not_le, -Nat.not_lt, -Nat.not_le, sx, mo0 hc]
  refine ⟨fun ht => ?_, fun hf => ?_⟩
  ·have : l.findIdx? p = some i := by
    rw [List.findIdx?_eq_some_iff_getElem]
    exact ⟨hlt, ht, fun j hj => by simp [ho j (by omega) hj]⟩
   rw [this]
  ·refine .of (i + 1) ⟨by omega, fun j h1 h2 => ?_⟩ (by omega) (Wk.subs (by simp) (by simp))
   by_cases hj : j = i
   ·subst hj; exact hf
   ·exact ho j h1 (by omega)
 ·have : l.findIdx? p = none := by
   rw [List.findIdx?_eq_none_iff]
   intro x hx
   obtain ⟨j, hj, rfl⟩ := List.getElem_of_mem hx
   exact ho j hj (by omega)
  rw [this]
theorem gz0 (p : Val -> Bool) (g : Nat) (caps : List V) (l : List Val) (hc : qy0 caps = true) (hl : l.length < 2 ^ 40) (hp : ∀ x ∈ l, Ret prog g (x.V :: caps) (vB (p x))) :
  Ret prog aP0 [ay0 l, .fn g caps] (vB (l.any p)) := by
 refine af0 bo0 (by simp) ?_
 simp +contextual (maxSteps := 2000000) (disch := omega) [-Int.not_lt, -Int.not_le, -Nat.not_lt, -Nat.not_le, sx, aO0]
 refine if0 (nT0 p g caps l hc hl hp) rfl rfl (by simp) (by simp [iy0 hc]) (by simp) ?_
 simp +contextual (maxSteps := 2000000) (disch := omega) [-Int.not_lt, -Int.not_le, -Nat.not_lt, -Nat.not_le, sx]
 cases hf : l.findIdx? p with
 | none =>
  rw [List.findIdx?_eq_none_iff] at hf
  have : l.any p = false := by rw [List.any_eq_false]; intro x hx; simp [hf x hx]
  simp [this]
 | some i =>
  rw [List.findIdx?_eq_some_iff_getElem] at hf
  obtain ⟨h1, h2, _⟩ := hf
  have : l.any p = true := by rw [List.any_eq_true]; exact ⟨_, List.getElem_mem h1, h2⟩
  simp [this]
def rise : List Val -> Bool
 | x :: y :: z :: l => decide (x.cmp z < 0) && rise (z :: l)
 | _ => true
mutual
def Val.sound : Val -> Bool
 | .mk k n t l =>
  if k = 1 then decide (t = noS) && decide (l.length = 0)
  else if k = 2 then decide (t = noS) && decide (l.length = 0) && (decide (n = 0) || decide (n = 1))
  else if k = 3 then decide (n = 0) && decide (l.length = 0) && decide (t.size <= 256)
  else if k = 4 then decide (n = 0) && decide (t = noS) && Val.rb0 l && decide (l.length <= 64)
  else if k = 5 then decide (n = 0) && decide (t = noS) && Val.rb0 l && (rise l && decide (l.length % 2 = 0) && decide (l.length <= 128))
  else false
def Val.rb0 : List Val -> Bool
 | [] => true
 | v :: vs => v.sound && Val.rb0 vs
end
theorem Val.ta0 (l : List Val) : Val.rb0 l = l.all Val.sound := by
 induction l with
 | nil => rfl
 | cons v l ih => rw [Val.rb0, List.all_cons, ih]
theorem Val.aY0 (v : Val) : v.sound = if v.kind = 1 then decide (v.text = noS) && decide (v.list.length = 0)
  else if v.kind = 2 then decide (v.text = noS) && decide (v.list.length = 0) && (decide (v.num = 0) || decide (v.num = 1))
  else if v.kind = 3 then decide (v.num = 0) && decide (v.list.length = 0) && decide (v.text.size <= 256)
  else if v.kind = 4 then decide (v.num = 0) && decide (v.text = noS) && v.list.all Val.sound && decide (v.list.length <= 64)
  else if v.kind = 5 then decide (v.num = 0) && decide (v.text = noS) && v.list.all Val.sound && (rise v.list && decide (v.list.length % 2 = 0) && decide (v.list.length <= 128))
  else false := by
 obtain ⟨k, n, t, l⟩ := v
 rw [Val.sound, Val.ta0]; rfl
theorem oe0 (l : List Val) (hl : Val.wtL l < 2 ^ 40) : Ret prog mT0 [ay0 l] (vB (rise l && decide (l.length % 2 = 0) && decide (l.length <= 128))) := by
 have hlen := Val.be0 l
 refine af0 qI0 (by simp) ?_
 simp +contextual (maxSteps := 2000000) (disch := omega) [-Int.not_lt, -Int.not_le, -Nat.not_lt, -Nat.not_le, sx, lW0]
 refine ap0 (fun i : Nat => l.length - i) (fun i => [(3, vI (i + 2 : Nat)), (0, ay0 l)]) (fun _ => []) (fun i => (i <= l.length) /\ rise l = rise (l.drop i)) 0 (by simp) (Wk.subs (by simp) (by simp)) ?_
 rintro i ⟨hi, ho⟩
 simp +contextual (maxSteps := 2000000) (disch := omega) [-Int.not_lt, -Int.not_le, -Nat.not_lt, -Nat.not_le, sx]
 refine ⟨fun hlt => ?_, fun hge => ?_⟩
 ·have h2 : i + 2 < l.length := by omega
  have hd : l.drop i = l[i] :: l[i + 1] :: l[i + 2] :: l.drop (i + 3) := by
   rw [List.drop_eq_getElem_cons (by omega), List.drop_eq_getElem_cons (by omega), List.drop_eq_getElem_cons h2]
  rw [hd, rise, <- List.drop_eq_getElem_cons h2] at ho
  refine ab0 ?_; simp; refine aa0 (b60 _ _ (Val.gy0 hl) (Val.gy0 hl)) (by simp) ?_
  simp +contextual (maxSteps := 2000000) (disch := omega) [-Int.not_lt, -Int.not_le, -Nat.not_lt, -Nat.not_le, sx]
  refine ⟨fun hge => ?_, fun hl => ?_⟩
  ·have : ¬ (l[i].cmp l[i + 2] < 0) := by omega
   simp [ho, this]
  ·refine .of (i + 2) ⟨by omega, ?_⟩ (by omega) (Wk.subs (by simp) (by simp))
   rw [ho]; simp; intro _; omega
 ·have : rise l = true := by
   rw [ho]
   match hm : l.drop i with
   | [] => rfl
   | [_] => rfl
   | [_, _] => rfl
   | _ :: _ :: _ :: _ => have := congrArg List.length hm; simp at this; omega
  simp +contextual (maxSteps := 2000000) (disch := omega) [-Int.not_lt, -Int.not_le, -Nat.not_lt, -Nat.not_le, sx, this]
  have e : (l.length : Int) % 2 = ((l.length % 2 : Nat) : Int) := by simp
  by_cases h2 : l.length % 2 = 0
  ·simp [h2, e]; omega
  ·have : l.length % 2 = 1 := by omega
   simp [e, this]
theorem p10 (v : Val) : v.wt < 2 ^ 40 -> Ret prog oP0 [v.V] (vB v.sound) := by
 induction v using Val.induct with
 | h v ih =>
 intro hv
 have hs := v.gw0 hv
 have hw := v.cB0
 have s1 : ∀ x ∈ v.list, Ret prog ir0 [x.V] (vB (!x.sound)) := fun x hx => by
  refine af0 pt0 (by simp) ?_
  simp +contextual (maxSteps := 2000000) (disch := omega) [-Int.not_lt, -Int.not_le, -Nat.not_lt, -Nat.not_le, sx, km0]
  refine ab0 ?_; simp; refine aa0 (ih x hx (by have := Val.aR0 hx; omega)) (by simp) ?_
  simp +contextual (maxSteps := 2000000) (disch := omega) [-Int.not_lt, -Int.not_le, -Nat.not_lt, -Nat.not_le, sx]
 have hany : v.list.any (fun x => !x.sound) = !v.list.all Val.sound := by simp [List.all_eq_not_any_not]
 refine af0 ry0 (by simp) ?_
 simp +contextual (maxSteps := 2000000) (disch := omega) [-Int.not_lt, -Int.not_le, -Nat.not_lt, -Nat.not_le, sx, mF0]
 (repeat' (first | apply And.intro | intro _))
 all_goals first | (simp [Val.aY0 v, *]; done) | (rw [Bool.eq_iff_iff]; simp [Val.aY0 v, *]; done) | (rw [Bool.eq_iff_iff]; simp [Val.aY0 v, *]; omega) | skip
 all_goals
  refine ab0 ?_; simp; refine aa0 (gz0 (fun x => !x.sound) ir0 [] v.list rfl (by omega) s1) (by simp) ?_
  rw [hany]
  cases hb : v.list.all Val.sound
  ·simp +contextual (maxSteps := 2000000) (disch := omega) [-Int.not_lt, -Int.not_le, -Nat.not_lt, -Nat.not_le, sx, *]
   simp [Val.aY0 v, hb, *]
  ·simp +contextual (maxSteps := 2000000) (disch := omega) [-Int.not_lt, -Int.not_le, -Nat.not_lt, -Nat.not_le, sx, *]
   (repeat' (first | apply And.intro | intro _))
   all_goals first
    | (simp [Val.aY0 v, hb, *]; done)
    | (rw [Val.aY0 v, hb, Bool.eq_iff_iff]; simp [*]; done)
    | (rw [Val.aY0 v, hb, Bool.eq_iff_iff]; simp [*]; omega)
    | (refine ab0 ?_; simp; refine aa0 (oe0 v.list (by omega)) (by simp) ?_
       simp +contextual (maxSteps := 2000000) (disch := omega) [-Int.not_lt, -Int.not_le, -Nat.not_lt, -Nat.not_le, sx, *]
       simp [Val.aY0 v, hb, *])
theorem lb0 (v : Val) (hv : v.wt < 2 ^ 40) : Ret prog oO0 [v.V] (vB (decide (v.wt <= 16384) && v.sound)) := by
 refine af0 rw0 (by simp) ?_
 simp +contextual (maxSteps := 2000000) (disch := omega) [-Int.not_lt, -Int.not_le, -Nat.not_lt, -Nat.not_le, sx, mD0]
 refine ab0 ?_; simp; refine aa0 (ej0 v (by omega)) (by simp) ?_
 simp +contextual (maxSteps := 2000000) (disch := omega) [-Int.not_lt, -Int.not_le, -Nat.not_lt, -Nat.not_le, sx]
 intro h
 refine ab0 ?_; simp; refine aa0 (p10 v hv) (by simp) ?_
 simp +contextual (maxSteps := 2000000) (disch := omega) [-Int.not_lt, -Int.not_le, -Nat.not_lt, -Nat.not_le, sx]
theorem pZ0 (v : Val) (hv : v.wt < 2 ^ 40) : Ret prog lo0 [v.V] (vB (!(decide (v.wt <= 16384) && v.sound))) := by
 refine af0 rx0 (by simp) ?_
 simp +contextual (maxSteps := 2000000) (disch := omega) [-Int.not_lt, -Int.not_le, -Nat.not_lt, -Nat.not_le, sx, mE0]
 refine ab0 ?_; simp; refine aa0 (lb0 v hv) (by simp) ?_
 simp +contextual (maxSteps := 2000000) (disch := omega) [-Int.not_lt, -Int.not_le, -Nat.not_lt, -Nat.not_le, sx]
theorem cq0 (n : Int) : Ret prog ey0 [vI n] (Val.int n).V := by
 refine af0 lv0 (by simp) ?_
 simp +contextual (maxSteps := 2000000) (disch := omega) [-Int.not_lt, -Int.not_le, -Nat.not_lt, -Nat.not_le, sx, gG0, Val.int]
theorem a10 (b : Bool) : Ret prog gO0 [vB b] (Val.bool b).V := by
 refine af0 kE0 (by simp) ?_
 cases b <;> simp +contextual (maxSteps := 2000000) (disch := omega) [-Int.not_lt, -Int.not_le, -Nat.not_lt, -Nat.not_le, sx, fI0, Val.bool]
theorem j70 (v : Val) (hv : v.wt < 2 ^ 40) : Ret prog ew0 [v.V] (.tup [vI v.len.1, vI v.len.2]) := by
 have hs := v.gw0 hv
 refine af0 ls0 (by simp) ?_
 simp +contextual (maxSteps := 2000000) (disch := omega) [-Int.not_lt, -Int.not_le, -Nat.not_lt, -Nat.not_le, sx, gD0, Val.len]
theorem fz0 (l : List Val) (hl : l.length < 2 ^ 40) (h : ∀ x ∈ l, x.wt < 2 ^ 40) : Ret prog sg0 [ay0 l] (vB (l.all fun v => decide (v.wt <= 16384) && v.sound)) := by
 refine af0 fn_vm_all (by simp) ?_
 simp +contextual (maxSteps := 2000000) (disch := omega) [-Int.not_lt, -Int.not_le, -Nat.not_lt, -Nat.not_le, sx, qm0]
 refine if0 (gz0 (fun v => !(decide (v.wt <= 16384) && v.sound)) lo0 [] l rfl hl fun x hx => pZ0 x (h x hx)) rfl rfl (by simp) (by simp) (by simp) ?_
 simp +contextual (maxSteps := 2000000) (disch := omega) [-Int.not_lt, -Int.not_le, -Nat.not_lt, -Nat.not_le, sx]
 rw [List.any_eq_not_all_not]
 simp
def Val.neg (v : Val) : Val × Int :=
 if v.kind ≠ 1 then (Val.zero, 40) else if v.num = -9223372036854775808 then (Val.zero, 50) else (Val.int (-v.num), 0)
theorem ma0 (v : Val) (h1 : -9223372036854775808 <= v.num) (h2 : v.num < 9223372036854775808) : Ret prog kt0 [v.V] (.tup [v.neg.1.V, vI v.neg.2]) := by
 refine af0 sU0 (by simp) ?_
 by_cases hk : v.kind = 1
 ·by_cases hn : v.num = -9223372036854775808
  ·have hw : IntKind.i64.wrap 9223372036854775808 = -9223372036854775808 := by decide
   simp +contextual (maxSteps := 2000000) (disch := omega) [-Int.not_lt, -Int.not_le, -Nat.not_lt, -Nat.not_le, sx, gH0, Val.neg, Val.zero, hk, hn, hw]
  ·have hw : IntKind.i64.wrap (-v.num) = -v.num := by rw [cl0] <;> omega
   by_cases hz : v.num = 0
   ·simp +contextual (maxSteps := 2000000) (disch := omega) [-Int.not_lt, -Int.not_le, -Nat.not_lt, -Nat.not_le, sx, gH0, Val.neg, Val.zero, hk, hz]
    refine ab0 ?_; simp; refine aa0 (cy0 0) (by simp) ?_
    simp +contextual (maxSteps := 2000000) (disch := omega) [-Int.not_lt, -Int.not_le, -Nat.not_lt, -Nat.not_le, sx]
   ·have hne : (v.num = -v.num) = False := by apply eq_false; omega
    simp +contextual (maxSteps := 2000000) (disch := omega) [-Int.not_lt, -Int.not_le, -Nat.not_lt, -Nat.not_le, sx, gH0, Val.neg, Val.zero, hk, hn, hw, hne]
    refine ab0 ?_; simp; refine aa0 (cy0 (-v.num)) (by simp) ?_
    simp +contextual (maxSteps := 2000000) (disch := omega) [-Int.not_lt, -Int.not_le, -Nat.not_lt, -Nat.not_le, sx]
 ·simp +contextual (maxSteps := 2000000) (disch := omega) [-Int.not_lt, -Int.not_le, -Nat.not_lt, -Nat.not_le, sx, gH0, Val.neg, Val.zero, hk]
theorem j80 (v : Val) (h1 : -9223372036854775808 <= v.num) (h2 : v.num < 9223372036854775808) : Ret prog ez0 [v.V] (.tup [v.neg.1.V, vI v.neg.2]) := by
 refine af0 lw0 (by simp) ?_
 by_cases hk : v.kind = 1
 ·by_cases hn : v.num = -9223372036854775808
  ·simp +contextual (maxSteps := 2000000) (disch := omega) [-Int.not_lt, -Int.not_le, -Nat.not_lt, -Nat.not_le, sx, cN0, Val.neg, Val.zero, hk, hn]
  ·have hw : IntKind.i64.wrap (-v.num) = -v.num := by rw [cl0] <;> omega
   simp +contextual (maxSteps := 2000000) (disch := omega) [-Int.not_lt, -Int.not_le, -Nat.not_lt, -Nat.not_le, sx, cN0, Val.neg, Val.zero, hk, hn, hw]
   refine ab0 ?_; simp; refine aa0 (cq0 (-v.num)) (by simp) ?_
   simp +contextual (maxSteps := 2000000) (disch := omega) [-Int.not_lt, -Int.not_le, -Nat.not_lt, -Nat.not_le, sx]
 ·simp +contextual (maxSteps := 2000000) (disch := omega) [-Int.not_lt, -Int.not_le, -Nat.not_lt, -Nat.not_le, sx, cN0, Val.neg, Val.zero, hk]
def fitI (x : Int) : Int × Int := if -9223372036854775808 <= x /\ x < 9223372036854775808 then (x, 0) else (0, 50)
theorem de0 {x : Int} (h1 : -9223372036854775808 <= x) (h2 : x < 9223372036854775808) : fitI x = (x, 0) := by simp [fitI, h1, h2]
theorem bW0 {x : Int} (h : x < -9223372036854775808 \/ 9223372036854775808 <= x) : fitI x = (0, 50) := by unfold fitI; rw [if_neg (by omega)]
theorem fs0 (a b : Int) (a1 : -9223372036854775808 <= a) (a2 : a < 9223372036854775808) (b1 : -9223372036854775808 <= b) (b2 : b < 9223372036854775808) :
  Ret prog h60 [vI a, vI b] (.tup [vI (fitI (a + b)).1, vI (fitI (a + b)).2]) := by
 refine af0 ly0 (by simp) ?_
 rcases Int.lt_trichotomy b 0 with hb | hb | hb
 ·have h0 : ¬ b > 0 := by omega
  by_cases hf : a < -9223372036854775808 - b
  ·rw [bW0 (by omega)]; simp +contextual (maxSteps := 2000000) (disch := omega) [-Int.not_lt, -Int.not_le, -Nat.not_lt, -Nat.not_le, sx, bR0, hb, h0, hf]
  ·rw [de0 (by omega) (by omega)]; simp +contextual (maxSteps := 2000000) (disch := omega) [-Int.not_lt, -Int.not_le, -Nat.not_lt, -Nat.not_le, sx, bR0, hb, h0, hf]
 ·subst hb
  rw [de0 (by omega) (by omega)]; simp +contextual (maxSteps := 2000000) (disch := omega) [-Int.not_lt, -Int.not_le, -Nat.not_lt, -Nat.not_le, sx, bR0]
 ·have h0 : ¬ b < 0 := by omega
  by_cases hf : a > 9223372036854775807 - b
  ·rw [bW0 (by omega)]; simp +contextual (maxSteps := 2000000) (disch := omega) [-Int.not_lt, -Int.not_le, -Nat.not_lt, -Nat.not_le, sx, bR0, hb, h0, hf]
  ·rw [de0 (by omega) (by omega)]; simp +contextual (maxSteps := 2000000) (disch := omega) [-Int.not_lt, -Int.not_le, -Nat.not_lt, -Nat.not_le, sx, bR0, hb, h0, hf]
theorem wrap_hi {x : Int} (h1 : 9223372036854775808 <= x) (h2 : x < 18446744073709551616) : IntKind.i64.wrap x = x - 18446744073709551616 := by
 simp only [IntKind.wrap, IntKind.bits, IntKind.signed]; simp; omega
theorem wrap_lo {x : Int} (h1 : -18446744073709551616 <= x) (h2 : x < -9223372036854775808) : IntKind.i64.wrap x = x + 18446744073709551616 := by
 simp only [IntKind.wrap, IntKind.bits, IntKind.signed]; simp; omega
theorem k00 (a b : Int) (a1 : -9223372036854775808 <= a) (a2 : a < 9223372036854775808) (b1 : -9223372036854775808 <= b) (b2 : b < 9223372036854775808) :
  Ret prog bc0 [vI 9, vI a, vI b] (.tup [vI (fitI (a + b)).1, vI (fitI (a + b)).2]) := by
 refine af0 bz0 (by simp) ?_
 by_cases hlo : a + b < -9223372036854775808
 ·have hw := wrap_lo (x := a + b) (by omega) hlo
  have c1 : a < a + b + 18446744073709551616 := by omega
  have c2 : ¬ 0 < b := by omega
  rw [bW0 (by omega)]; simp +contextual (maxSteps := 2000000) (disch := omega) [-Int.not_lt, -Int.not_le, -Nat.not_lt, -Nat.not_le, sx, ar0, hw, c1, c2]
 ·by_cases hhi : 9223372036854775808 <= a + b
  ·have hw := wrap_hi (x := a + b) hhi (by omega)
   have c1 : ¬ a < a + b - 18446744073709551616 := by omega
   have c2 : 0 < b := by omega
   rw [bW0 (by omega)]; simp +contextual (maxSteps := 2000000) (disch := omega) [-Int.not_lt, -Int.not_le, -Nat.not_lt, -Nat.not_le, sx, ar0, hw, c1, c2]
  ·have hw : IntKind.i64.wrap (a + b) = a + b := cl0 (by omega) (by omega)
   have c1 : (a < a + b) = (0 < b) := by apply propext; omega
   rw [de0 (by omega) (by omega)]; simp +contextual (maxSteps := 2000000) (disch := omega) [-Int.not_lt, -Int.not_le, -Nat.not_lt, -Nat.not_le, sx, ar0, hw, c1]
theorem k40 (a b : Int) (a1 : -9223372036854775808 <= a) (a2 : a < 9223372036854775808) (b1 : -9223372036854775808 <= b) (b2 : b < 9223372036854775808) :
  Ret prog bc0 [vI 10, vI a, vI b] (.tup [vI (fitI (a - b)).1, vI (fitI (a - b)).2]) := by
 refine af0 bz0 (by simp) ?_
 by_cases hlo : a - b < -9223372036854775808
 ·have hw := wrap_lo (x := a - b) (by omega) hlo
  have c1 : ¬ a - b + 18446744073709551616 < a := by omega
  have c2 : 0 < b := by omega
  rw [bW0 (by omega)]; simp +contextual (maxSteps := 2000000) (disch := omega) [-Int.not_lt, -Int.not_le, -Nat.not_lt, -Nat.not_le, sx, ar0, hw, c1, c2]
 ·by_cases hhi : 9223372036854775808 <= a - b
  ·have hw := wrap_hi (x := a - b) hhi (by omega)
   have c1 : a - b - 18446744073709551616 < a := by omega
   have c2 : ¬ 0 < b := by omega
   rw [bW0 (by omega)]; simp +contextual (maxSteps := 2000000) (disch := omega) [-Int.not_lt, -Int.not_le, -Nat.not_lt, -Nat.not_le, sx, ar0, hw, c1, c2]
  ·have hw : IntKind.i64.wrap (a - b) = a - b := cl0 (by omega) (by omega)
   have c1 : (a - b < a) = (0 < b) := by apply propext; omega
   rw [de0 (by omega) (by omega)]; simp +contextual (maxSteps := 2000000) (disch := omega) [-Int.not_lt, -Int.not_le, -Nat.not_lt, -Nat.not_le, sx, ar0, hw, c1]
theorem fx0 (op a : Int) (ho : op = 12 \/ op = 13) : Ret prog bc0 [vI op, vI a, vI 0] (.tup [vI 0, vI 51]) := by
 refine af0 bz0 (by simp) ?_
 rcases ho with rfl | rfl <;> simp +contextual (maxSteps := 2000000) (disch := omega) [-Int.not_lt, -Int.not_le, -Nat.not_lt, -Nat.not_le, sx, ar0]
theorem k20 (a b : Int) (a1 : -9223372036854775808 <= a) (a2 : a < 9223372036854775808) (b1 : -9223372036854775808 <= b) (b2 : b < 9223372036854775808) (h : b ≠ 0) :
  Ret prog bc0 [vI 13, vI a, vI b] (.tup [vI (a.tmod b), vI 0]) := by
 refine af0 bz0 (by simp) ?_
 by_cases hm : b = -1
 ·subst hm; simp +contextual (maxSteps := 2000000) (disch := omega) [-Int.not_lt, -Int.not_le, -Nat.not_lt, -Nat.not_le, sx, ar0]
 ·simp +contextual (maxSteps := 2000000) (disch := omega) [-Int.not_lt, -Int.not_le, -Nat.not_lt, -Nat.not_le, sx, ar0, h, hm]
theorem c80 {a b : Int} (a1 : -9223372036854775808 <= a) (a2 : a < 9223372036854775808) (h : b ≠ 0) (hm : b ≠ -1) : -9223372036854775808 <= a.tdiv b /\ a.tdiv b < 9223372036854775808 := by
 by_cases h1 : b = 1
 ·subst h1; simp; omega
 ·have e : (a.tdiv b).natAbs = a.natAbs / b.natAbs := Int.natAbs_tdiv a b
  have hb : 2 <= b.natAbs := by omega
  have h2 : a.natAbs / b.natAbs <= a.natAbs / 2 := Nat.div_le_div_left hb (by omega)
  rw [<- e] at h2
  generalize a.tdiv b = q at h2
  omega
theorem k10 (a b : Int) (a1 : -9223372036854775808 <= a) (a2 : a < 9223372036854775808) (b1 : -9223372036854775808 <= b) (b2 : b < 9223372036854775808) (h : b ≠ 0) (hov : ¬ (b = -1 /\ a = -9223372036854775808)) :
  Ret prog bc0 [vI 12, vI a, vI b] (.tup [vI (a.tdiv b), vI 0]) := by
 refine af0 bz0 (by simp) ?_
 by_cases hm : b = -1
 ·subst hm
  have hw : IntKind.i64.wrap (-a) = -a := cl0 (by omega) (by omega)
  by_cases hz : a = 0
  ·subst hz; simp +contextual (maxSteps := 2000000) (disch := omega) [-Int.not_lt, -Int.not_le, -Nat.not_lt, -Nat.not_le, sx, ar0]
  ·have hne : (a = -a) = False := by apply eq_false; omega
   simp +contextual (maxSteps := 2000000) (disch := omega) [-Int.not_lt, -Int.not_le, -Nat.not_lt, -Nat.not_le, sx, ar0, hw, hne]
 ·simp +contextual (maxSteps := 2000000) (disch := omega) [-Int.not_lt, -Int.not_le, -Nat.not_lt, -Nat.not_le, sx, ar0, h, hm]
  exact cl0 (c80 a1 a2 h hm).1 (c80 a1 a2 h hm).2
theorem o10 (x : Int) : -9223372036854775808 <= IntKind.i64.wrap x /\ IntKind.i64.wrap x < 9223372036854775808 /\ ∃ k : Int, IntKind.i64.wrap x = x + k * 18446744073709551616 := by
 have h := Int.emod_nonneg x (b := 18446744073709551616) (by omega)
 have h2 := Int.emod_lt_of_pos x (b := 18446744073709551616) (by omega)
 have h3 := Int.emod_add_mul_ediv x 18446744073709551616
 have e : IntKind.i64.wrap x = if 9223372036854775808 <= x % 18446744073709551616 then x % 18446744073709551616 - 18446744073709551616 else x % 18446744073709551616 := by
  simp only [IntKind.wrap, IntKind.bits, IntKind.signed]; simp
 rw [e]
 split
 ·exact ⟨by omega, by omega, -(x / 18446744073709551616) - 1, by omega⟩
 ·exact ⟨by omega, by omega, -(x / 18446744073709551616), by omega⟩
theorem mul_out {a b : Int} (a1 : -9223372036854775808 <= a) (a2 : a < 9223372036854775808) (b1 : -9223372036854775808 <= b) (b2 : b < 9223372036854775808) (hb : b ≠ 0) (hm : b ≠ -1)
  (ho : IntKind.i64.wrap (a * b) ≠ a * b) : (IntKind.i64.wrap (a * b)).tdiv b ≠ a := by
 intro h
 obtain ⟨h1, h2, k, hk⟩ := o10 (a * b)
 generalize IntKind.i64.wrap (a * b) = p at *
 have e := Int.tmod_add_mul_tdiv p b
 have hr := Int.natAbs_tmod p b
 have hlt : p.natAbs % b.natAbs < b.natAbs := Nat.mod_lt _ (by omega)
 rw [h, Int.mul_comm b a] at e
 rw [<- hr] at hlt
 generalize p.tmod b = r at *
 generalize a * b = q at *
 omega
theorem k30 (a b : Int) (a1 : -9223372036854775808 <= a) (a2 : a < 9223372036854775808) (b1 : -9223372036854775808 <= b) (b2 : b < 9223372036854775808) :
  Ret prog bc0 [vI 11, vI a, vI b] (.tup [vI (fitI (a * b)).1, vI (fitI (a * b)).2]) := by
 refine af0 bz0 (by simp) ?_
 by_cases ha : a = 0
 ·subst ha; simp +contextual (maxSteps := 2000000) (disch := omega) [-Int.not_lt, -Int.not_le, -Nat.not_lt, -Nat.not_le, sx, ar0, fitI]
 by_cases hb : b = 0
 ·subst hb; simp +contextual (maxSteps := 2000000) (disch := omega) [-Int.not_lt, -Int.not_le, -Nat.not_lt, -Nat.not_le, sx, ar0, fitI, ha]
 by_cases hin : -9223372036854775808 <= a * b /\ a * b < 9223372036854775808
 ·have hw : IntKind.i64.wrap (a * b) = a * b := cl0 hin.1 hin.2
  have hd : (a * b).tdiv b = a := Int.mul_tdiv_cancel a hb
  have hwa : IntKind.i64.wrap a = a := cl0 a1 a2
  have hs : (a * b < 0) = ¬ ((a < 0) ↔ (b < 0)) := by
   apply propext
   rcases Int.lt_or_gt_of_ne ha with h1 | h1 <;> rcases Int.lt_or_gt_of_ne hb with h2 | h2
   ·have := Int.mul_pos_of_neg_of_neg h1 h2; omega
   ·have := Int.mul_neg_of_neg_of_pos h1 h2; omega
   ·have := Int.mul_neg_of_pos_of_neg h1 h2; omega
   ·have := Int.mul_pos h1 h2; omega
  rw [de0 hin.1 hin.2]
  simp +contextual (maxSteps := 2000000) (disch := omega) [-Int.not_lt, -Int.not_le, -Nat.not_lt, -Nat.not_le, sx, ar0, ha, hb, hw, hd, hwa, hs]
 ·rw [bW0 (by omega)]
  by_cases hm : b = -1
  ·subst hm
   have : a = -9223372036854775808 := by omega
   subst this
   have hw : IntKind.i64.wrap 9223372036854775808 = -9223372036854775808 := by decide
   simp +contextual (maxSteps := 2000000) (disch := omega) [-Int.not_lt, -Int.not_le, -Nat.not_lt, -Nat.not_le, sx, ar0, hw]
  ·have hr := o10 (a * b)
   have ho := mul_out a1 a2 b1 b2 hb hm (fun e => hin (by rw [<- e]; exact ⟨hr.1, hr.2.1⟩))
   have hf := c80 hr.1 hr.2.1 hb hm
   have hw : IntKind.i64.wrap ((IntKind.i64.wrap (a * b)).tdiv b) = (IntKind.i64.wrap (a * b)).tdiv b := cl0 hf.1 hf.2
   simp +contextual (maxSteps := 2000000) (disch := omega) [-Int.not_lt, -Int.not_le, -Nat.not_lt, -Nat.not_le, sx, ar0, ha, hb, hw, ho]
def outC (v : Val) (e f : Int) : List V := [vI v.kind, vI v.num, vS v.text, ay0 v.list, vI e, vI f]
theorem bU0 (v u : Val) (e f e' f' : Int) (hv : v.wt < 2 ^ 40) (hu : u.wt < 2 ^ 40) :
  Ret prog dj0 [.agg (outC v e f), .agg (outC u e' f')] (vB (decide (e = e') && decide (f = f') && decide (v = u))) := by
 refine af0 gt0 (by simp [outC]) ?_
 by_cases h1 : e = e'
 ·subst h1
  by_cases h2 : f = f'
  ·subst h2
   simp +contextual (maxSteps := 2000000) (disch := omega) [-Int.not_lt, -Int.not_le, -Nat.not_lt, -Nat.not_le, sx, bB0, outC]
   refine ab0 ?_; simp; refine aa0 (da0 v u hv hu) (by simp) ?_
   simp +contextual (maxSteps := 2000000) (disch := omega) [-Int.not_lt, -Int.not_le, -Nat.not_lt, -Nat.not_le, sx]
  ·simp +contextual (maxSteps := 2000000) (disch := omega) [-Int.not_lt, -Int.not_le, -Nat.not_lt, -Nat.not_le, sx, bB0, outC, h2]
 ·simp +contextual (maxSteps := 2000000) (disch := omega) [-Int.not_lt, -Int.not_le, -Nat.not_lt, -Nat.not_le, sx, bB0, outC, h1]
end Go.Am
end

section
namespace Go.Am
structure Ins where
 op : Int
 a : Int
 deriving Inhabited
def Ins.cells (x : Ins) : List V := [.c (.int .i64 x.op), .c (.int .i64 x.a)]
theorem Ins.au0 (x : Ins) : x.cells = [.c (.int .i64 x.op), .c (.int .i64 x.a)] := rfl
theorem Ins.flat (x : Ins) : qy0 x.cells = true := by rw [Ins.au0]; rfl
@[simp] theorem Ins.dx0 (x : Ins) : x.cells.length = 2 := by rw [Ins.au0]; rfl
section
variable {x : Ins} {K : V -> Prop} {Ks : List V -> Prop} {hp : Hp}
@[simp] theorem Ins.nth0 : nthK x.cells 0 K = K (.c (.int .i64 x.op)) := by rw [Ins.au0]; simp
@[simp] theorem Ins.nth1 : nthK x.cells 1 K = K (.c (.int .i64 x.a)) := by rw [Ins.au0]; simp
@[simp] theorem Ins.take1 : x.cells.take 1 = [.c (.int .i64 x.op)] := by rw [Ins.au0]; rfl
@[simp] theorem Ins.drop1 : x.cells.drop 1 = [.c (.int .i64 x.a)] := by rw [Ins.au0]; rfl
@[simp] theorem Ins.take2 : x.cells.take 2 = x.cells := List.take_of_length_le (by simp)
@[simp] theorem Ins.drop2 : x.cells.drop 2 = [] := by rw [Ins.au0]; rfl
@[simp] theorem Ins.has0 {i : Id} : V.hasL i x.cells = false := mo0 x.flat i
@[simp] theorem Ins.hasS0 {ss : List Nat} : V.hM0 ss x.cells = false := mX0 x.flat ss
@[simp] theorem Ins.kill0 {i : Id} : x.cells.map (V.kill i) = x.cells := mZ0 x.flat i
@[simp] theorem Ins.jd0 : scalars x.cells = true := iz0 x.flat
@[simp] theorem Ins.pure0 : V.bD0 x.cells = true := iy0 x.flat
@[simp] theorem Ins.view0 : V.dS0 hp x.cells Ks = Ks x.cells := kx0 x.flat Ks
@[simp] theorem Ins.see0 {nl : Bool} {ks : List Id} : V.seeL nl ks hp x.cells Ks = Ks x.cells := pj0 x.flat nl ks Ks
@[simp] theorem Ins.map0 {f : Id -> Option Id} : fp0 f x.cells Ks = Ks x.cells := pi0 x.flat f Ks
@[simp] theorem Ins.hide0 {ks : List Id} : V.cA0 ks x.cells = x.cells := mY0 x.flat ks
end
@[simp] theorem Ins.sb0 (x : Ins) : (x.cells = []) = False := by rw [Ins.au0]; simp
@[simp ↓] theorem Ins.head {l : List Ins} : (l.map Ins.cells = [] \/ ∃ e, (l.map Ins.cells)[0]? = some e /\ e.length = 2) = True := head_map fun x => x.dx0
abbrev Ins.V (x : Ins) : V := .agg x.cells
structure Fnc where
 params : Int
 locals : Int
 zero : Int
 stack : Int
 code : List Ins
 deriving Inhabited
def Fnc.cells (x : Fnc) : List V := [.c (.int .i64 x.params), .c (.int .i64 x.locals), .c (.int .i64 x.zero), .c (.int .i64 x.stack), .lst (x.code.map Ins.cells)]
theorem Fnc.au0 (x : Fnc) : x.cells = [.c (.int .i64 x.params), .c (.int .i64 x.locals), .c (.int .i64 x.zero), .c (.int .i64 x.stack), .lst (x.code.map Ins.cells)] := rfl
theorem Fnc.flat (x : Fnc) : qy0 x.cells = true := by rw [Fnc.au0]; rfl
@[simp] theorem Fnc.dx0 (x : Fnc) : x.cells.length = 5 := by rw [Fnc.au0]; rfl
section
variable {x : Fnc} {K : V -> Prop} {Ks : List V -> Prop} {hp : Hp}
@[simp] theorem Fnc.nth0 : nthK x.cells 0 K = K (.c (.int .i64 x.params)) := by rw [Fnc.au0]; simp
@[simp] theorem Fnc.nth1 : nthK x.cells 1 K = K (.c (.int .i64 x.locals)) := by rw [Fnc.au0]; simp
@[simp] theorem Fnc.nth2 : nthK x.cells 2 K = K (.c (.int .i64 x.zero)) := by rw [Fnc.au0]; simp
@[simp] theorem Fnc.nth3 : nthK x.cells 3 K = K (.c (.int .i64 x.stack)) := by rw [Fnc.au0]; simp
@[simp] theorem Fnc.nth4 : nthK x.cells 4 K = K (.lst (x.code.map Ins.cells)) := by rw [Fnc.au0]; simp
@[simp] theorem Fnc.take1 : x.cells.take 1 = [.c (.int .i64 x.params)] := by rw [Fnc.au0]; rfl
@[simp] theorem Fnc.drop1 : x.cells.drop 1 = [.c (.int .i64 x.locals), .c (.int .i64 x.zero), .c (.int .i64 x.stack), .lst (x.code.map Ins.cells)] := by rw [Fnc.au0]; rfl
@[simp] theorem Fnc.take2 : x.cells.take 2 = [.c (.int .i64 x.params), .c (.int .i64 x.locals)] := by rw [Fnc.au0]; rfl
@[simp] theorem Fnc.drop2 : x.cells.drop 2 = [.c (.int .i64 x.zero), .c (.int .i64 x.stack), .lst (x.code.map Ins.cells)] := by rw [Fnc.au0]; rfl
@[simp] theorem Fnc.take3 : x.cells.take 3 = [.c (.int .i64 x.params), .c (.int .i64 x.locals), .c (.int .i64 x.zero)] := by rw [Fnc.au0]; rfl
@[simp] theorem Fnc.drop3 : x.cells.drop 3 = [.c (.int .i64 x.stack), .lst (x.code.map Ins.cells)] := by rw [Fnc.au0]; rfl
@[simp] theorem Fnc.take4 : x.cells.take 4 = [.c (.int .i64 x.params), .c (.int .i64 x.locals), .c (.int .i64 x.zero), .c (.int .i64 x.stack)] := by rw [Fnc.au0]; rfl
@[simp] theorem Fnc.drop4 : x.cells.drop 4 = [.lst (x.code.map Ins.cells)] := by rw [Fnc.au0]; rfl
@[simp] theorem Fnc.take5 : x.cells.take 5 = x.cells := List.take_of_length_le (by simp)
@[simp] theorem Fnc.has0 {i : Id} : V.hasL i x.cells = false := mo0 x.flat i
@[simp] theorem Fnc.hasS0 {ss : List Nat} : V.hM0 ss x.cells = false := mX0 x.flat ss
@[simp] theorem Fnc.kill0 {i : Id} : x.cells.map (V.kill i) = x.cells := mZ0 x.flat i
@[simp] theorem Fnc.jd0 : scalars x.cells = true := iz0 x.flat
@[simp] theorem Fnc.pure0 : V.bD0 x.cells = true := iy0 x.flat
@[simp] theorem Fnc.view0 : V.dS0 hp x.cells Ks = Ks x.cells := kx0 x.flat Ks
@[simp] theorem Fnc.see0 {nl : Bool} {ks : List Id} : V.seeL nl ks hp x.cells Ks = Ks x.cells := pj0 x.flat nl ks Ks
@[simp] theorem Fnc.map0 {f : Id -> Option Id} : fp0 f x.cells Ks = Ks x.cells := pi0 x.flat f Ks
@[simp] theorem Fnc.hide0 {ks : List Id} : V.cA0 ks x.cells = x.cells := mY0 x.flat ks
end
@[simp] theorem Fnc.sb0 (x : Fnc) : (x.cells = []) = False := by rw [Fnc.au0]; simp
@[simp ↓] theorem Fnc.head {l : List Fnc} : (l.map Fnc.cells = [] \/ ∃ e, (l.map Fnc.cells)[0]? = some e /\ e.length = 5) = True := head_map fun x => x.dx0
abbrev Fnc.V (x : Fnc) : V := .agg x.cells
structure Mdl where
 consts : List Val
 funcs : List Fnc
 deriving Inhabited
def Mdl.cells (m : Mdl) : List V := [.lst (m.consts.map Val.cells), .lst (m.funcs.map Fnc.cells)]
abbrev Mdl.V (m : Mdl) : V := .agg [.lst (m.consts.map Val.cells), .lst (m.funcs.map Fnc.cells)]
end Go.Am
end

section
namespace Go.Am
set_option maxRecDepth 100000
attribute [local irreducible] vc vcIs vcI vcOp vcD vcDp vcDR vcT vcAR bp0 aK0 panD neG ne pv J bm0 bl0 bt0 aS0 evK evsK nthK objK boxK rowK bg0 intK strK aggK fnK ifcK aw0 at0 ldK ldaK iaK srcK stK appK appD bv0 pvK br0 aF0 bk0
def Ins.ax0 (i : Ins) : Int := if i.op = 1 \/ i.op = 2 \/ i.op = 4 \/ i.op = 9 \/ (12 <= i.op /\ i.op <= 21) then 1 else 0
def Mdl.pops (m : Mdl) (i : Ins) : Int :=
 if i.op = 3 \/ i.op = 5 \/ i.op = 6 \/ i.op = 8 \/ i.op = 10 \/ (13 <= i.op /\ i.op <= 16) then 1
 else if i.op = 12 \/ i.op = 17 \/ i.op = 18 \/ i.op = 19 \/ i.op = 21 then 2
 else if i.op = 20 then 3 else if i.op = 9 then (m.funcs.getD i.a.toNat default).params else 0
theorem ie0 (i : Ins) : Ret prog ff0 [i.V] (vI i.ax0) := by
 refine af0 jk0 (by simp) ?_
 simp +contextual (maxSteps := 2000000) (disch := omega) [-Int.not_lt, -Int.not_le, -Nat.not_lt, -Nat.not_le, sx, eJ0]
 (repeat' (first | apply And.intro | intro _))
 all_goals (unfold Ins.ax0; split <;> omega)
theorem av0 (m : Mdl) (i : Ins) (h : i.op = 9 -> 0 <= i.a /\ i.a.toNat < m.funcs.length) : Ret prog gP0 [m.V, i.V] (vI (m.pops i)) := by
 refine af0 kF0 (by simp) ?_
 by_cases h9 : i.op = 9
 ·obtain ⟨k1, k2⟩ := h h9
  simp +contextual (maxSteps := 2000000) (disch := omega) [-Int.not_lt, -Int.not_le, -Nat.not_lt, -Nat.not_le, sx, du0, h9, Mdl.pops]
 ·simp +contextual (maxSteps := 2000000) (disch := omega) [-Int.not_lt, -Int.not_le, -Nat.not_lt, -Nat.not_le, sx, du0, h9]
  (repeat' (first | apply And.intro | intro _))
  all_goals (unfold Mdl.pops; (repeat' split) <;> omega)
theorem mf0 (m : Mdl) (i : Ins) (h : i.op = 9 -> 0 <= i.a /\ i.a.toNat < m.funcs.length) : Ret prog ks0 [m.V, i.V] (.tup [vI (m.pops i), vI i.ax0]) := by
 refine af0 n20 (by simp) ?_
 by_cases h9 : i.op = 9
 ·obtain ⟨k1, k2⟩ := h h9
  simp +contextual (maxSteps := 2000000) (disch := omega) [-Int.not_lt, -Int.not_le, -Nat.not_lt, -Nat.not_le, sx, gh0, h9, Mdl.pops, Ins.ax0]
 ·simp +contextual (maxSteps := 2000000) (disch := omega) [-Int.not_lt, -Int.not_le, -Nat.not_lt, -Nat.not_le, sx, gh0, h9]
  (repeat' (first | apply And.intro | intro _))
  all_goals first
   | (unfold Mdl.pops; (repeat' split) <;> omega)
   | (unfold Ins.ax0; split <;> omega)
def Mdl.most (m : Mdl) (states n : Int) (f : Fnc) (op : Int) : Int × Int :=
 if op = 1 then (0, m.consts.length) else if op = 2 \/ op = 3 then (0, f.locals) else if op = 4 \/ op = 5 then (0, states)
 else if op = 7 \/ op = 8 then (0, f.code.length) else if op = 9 then (0, n) else if op = 11 then (0, 1099511627777) else if op = 12 then (3, 14) else (0, 1)
def Mdl.fn0 (m : Mdl) (states n : Int) (f : Fnc) (i : Ins) : Bool :=
 decide (1 <= i.op) && decide (i.op <= 21) && decide ((m.most states n f i.op).1 <= i.a) && decide (i.a < (m.most states n f i.op).2)
theorem jn0 (m : Mdl) (states n : Int) (i : Ins) (h0 : 0 <= n) (h : n.toNat < m.funcs.length) :
  Ret prog gR0 [m.V, vI states, vI n, i.V] (vB (m.fn0 states n m.funcs[n.toNat] i)) := by
 refine af0 kH0 (by simp) ?_
 simp +contextual (maxSteps := 2000000) (disch := omega) [-Int.not_lt, -Int.not_le, -Nat.not_lt, -Nat.not_le, sx, fJ0]
 (repeat' (first | apply And.intro | intro _))
 all_goals first
  | (simp [Mdl.fn0, Mdl.most, *]; done)
  | (simp [Mdl.fn0, Mdl.most, *]; omega)
  | skip
end Go.Am
end

section
namespace Go.Am
variable {P : Program} {n : Nat} {H : Imm} {μ : Mu} {env : Env} {hp : Hp} {a : Act} {w : World}
theorem fin_ret {m : Sz} {fn : Func} {rs : List IOp} {k : Nat} {Q : Res -> Prop} {H0 : Imm} {μ0 : Mu} {hp0 : Hp} {w0 : World} (k6 : gf0 P fn.results.toList = some rs) (hS : Sat m H μ env hp a w)
  (hN : Nj H0 μ0 hp0 w0 H μ hp w) (hext : ∀ j, j < k -> μ (.e j) = μ0 (.e j)) (h : retX k rs Q .ret env hp) :
  ∃ x, (results fn a.tmps).run P w = .ok x w /\ ∃ r H' μ', Q r /\ JP H0 μ0 k hp0 w0 r (.returned x) H' μ' w := by
 obtain ⟨outs, e0, q1⟩ := h
 obtain ⟨v, x, e1, e2, e3⟩ := lF0 (K := fun v => outV hp (esL 0 k ++ outs) v fun u obs => Q (.ret u obs)) k6 hS q1
 refine ⟨x, e3, ?_⟩
 obtain ⟨u, obs', H1, m1, m2, m3, m4, m5, m6⟩ := pF0 hS.wd e2 e0 e1
 refine ⟨_, H1, _, m1, ⟨x, rfl, m2⟩, hN.trans m5, m4, by rw [m6]; simp [ll0], fun j o hj ho hg => ?_⟩
 simp only [muE]
 rw [List.getElem?_append_left (by rw [ll0]; exact hj), pf0 hj, Nat.zero_add]
 exact hext j hj
theorem rt0 {rs : List IOp} {k : Nat} {Q : Res -> Prop} {H0 : Imm} {μ0 : Mu} {hp0 : Hp} {w0 : World} {v : V} {x : Value} (hr : R H μ v x) (hW : Wd H μ hp w)
  (hN : Nj H0 μ0 hp0 w0 H μ hp w) (hext : ∀ j, j < k -> μ (.e j) = μ0 (.e j)) (h : retX k rs Q (.pan v) env hp) :
  ∃ r H' μ', Q r /\ JP H0 μ0 k hp0 w0 r (.panicked [{ v := x, recovered := false }]) H' μ' w := by
 obtain ⟨u, obs', H1, m1, m2, m3, m4, m5, m6⟩ := pF0 hW hr (qw0 0 _) h
 refine ⟨_, H1, _, m1, ⟨x, rfl, m2⟩, hN.trans m5, m4, by rw [m6, ll0], fun j o hj ho hg => ?_⟩
 simp only [muE]
 rw [pf0 hj, Nat.zero_add]
 exact hext j hj
theorem end_wp {fn : Func} {c : Code} {cd : Cd} {rs : List IOp} {k : Nat} {Q : Res -> Prop} (k5 : qh0 P n c cd) (k6 : gf0 P fn.results.toList = some rs) (hS : Sat ⟨n, []⟩ H μ env hp a w)
  (h : vc P cd env hp (wkQ (retX k rs Q))) : c.wp P (bodyPost P fn fun e w' => ∃ r H' μ', Q r /\ JP H μ k hp w r e H' μ' w') a w := by
 refine wp_mono (vc_okA (n := ⟨n, []⟩) k5 h H μ a w hS) fun e a' w' hpo => ?_
 obtain ⟨ex, env', hp', H', μ', q1, q2, q3, q4⟩ := hpo
 have hret : ∀ {q : ex = .normal \/ ex = .ret}, ∃ v, (results fn a'.tmps).run P w' = .ok v w' /\ ∃ r H'' μ'', Q r /\ JP H μ k hp w r (.returned v) H'' μ'' w' := by
  intro q
  have q1' : ∃ E h, Wk E h env' hp' /\ (retX k rs Q .ret E h) := by
   rcases q with rfl | rfl
   ·obtain ⟨E, h, r1, r2⟩ := q1; exact ⟨E, h, r1, r2⟩
   ·exact q1
  obtain ⟨E, hE, hwk, q1⟩ := q1'
  obtain ⟨μ2, r1, r2⟩ := hwk ⟨n, []⟩ H' μ' a' w' q4
  exact fin_ret k6 r1 (q3.trans r2).toNj (fun j _ => (q3.trans r2).ext j) q1
 cases ex with
 | normal => cases e <;> simp only [Ex.ok] at q2; exact ⟨q4.defers, hret (q := .inl rfl)⟩
 | ret => cases e <;> simp only [Ex.ok] at q2; exact ⟨q4.defers, hret (q := .inr rfl)⟩
 | exit i => exact q1.elim
 | pan v =>
  cases e <;> simp only [Ex.ok] at q2
  obtain ⟨x, rfl, hx⟩ := q2
  exact ⟨q4.defers, rt0 (env := env') (rs := rs) hx q4.wd q3.toNj (fun j _ => q3.ext j) q1⟩
def recMode : FrameMode -> FrameMode
 | .panicking ({ v, recovered := false, goexit := false } :: older) => .panicking ({ v, recovered := true } :: older)
 | m => m
def PanOf (H : Imm) (pv : Option V) (u : FrameMode) : Prop :=
 match pv with
 | none => u = .returning
 | some p => ∃ x, u = .panicking [{ v := x, recovered := false }] /\ R H Mu.bot p x
def iH0 (rec : Bool) (u : FrameMode) : FrameMode := if rec then recMode u else u
def JD (P : Program) (rec : Bool) (f : FuncId) (args : List V) (obs : List Ob) (pv : Option V) (Q : Res -> Prop) : Prop :=
 ∀ H μ vs w u, RL H μ args vs -> Wd H μ (hpE 0 obs) w -> PanOf H pv u -> (callFunc f vs).run P w = .ok (.enter f vs) w /\
  CallsD P f vs u w fun e u' w' => u' = iH0 rec u /\ ∃ r H' μ', Q r /\ JP H μ obs.length (hpE 0 obs) w r e H' μ' w'
theorem ra0 {args : List V} {vs : Array Value} (hlen : args.length <= n) (hargs : RL H μ args vs) (hW : Wd H μ hp w) : Sat ⟨n, []⟩ H μ (ci0 0 args) hp { tmps := vs ++ Array.replicate (n - vs.size) undef, defers := [] } w := by
 have hsz : vs.size = args.length := hargs.1
 refine ⟨rfl, by simp [hsz]; omega, fun s v hs => ?_, hW⟩
 obtain ⟨j, e, hj⟩ := eu0 hs
 rw [Nat.zero_add] at e; subst e
 have hlt : s < vs.size := by rw [hsz]; exact (List.getElem?_eq_some_iff.1 hj).1
 have := hargs.2 s v hj
 rw [Array.getD_eq_getD_getElem?] at this ⊢
 rw [Array.getElem?_append_left hlt]; exact this
def pvV : Option V -> V
 | none => .c .nilIface
 | some p => p
theorem JR_of {f : FuncId} {s : Nat} {cd : Cd} {rs : List IOp} {args : List V} {obs : List Ob} {pv : Option V} {Q : Res -> Prop} (hf : FnR P f n s cd rs) (hlen : args.length <= n) (hp : ∀ p, pv = some p -> p.pure = true)
  (h : vc P cd ((ci0 0 args).put (some s) (pvV pv)) (hpE 0 obs) (wkQ (retX obs.length rs Q))) : JD P true f args obs pv Q := by
 intro H μ vs w u h1 h2 h3
 obtain ⟨fn, c, id, o, cal, k1, k2, k3, c1, c2, c3, c4, c5, c6, k4, k5, k6⟩ := hf.ex
 have k2' : ¬ fn.name = "runtime.NumGoroutine" := by simpa using k2
 refine ⟨by simp [callFunc, k1, k2', k3], ?_⟩
 have hS := ra0 (w := w) (hp := hpE 0 obs) hlen h1 h2
 refine callsD_of_wpS k1 k3 fun c₀ cs hu => wpS_seq (wpS_region ?_)
 rw [k4]
 generalize ha : ({ tmps := vs ++ Array.replicate (n - vs.size) undef, defers := [] } : Act) = a at hS
 have hrun : (execOp a.eval o).run P w = .ok .recover w := by
  obtain ⟨cc, ca, ct⟩ := cal
  simp only at c2 c3
  subst c2; subst c3
  simp [execOp, c1, resolve, invoke, builtin]
 have hwant : Region.wanted o (yielded #[o] a.tmps) = true := by simp [Region.wanted, c5]
 have hgo : ∀ x u', (∀ μ, R H μ (pvV pv) x) -> u' = iH0 true u -> c.wpS P (bodyPostS P fn c₀ cs fun e u' w' => u' = iH0 true u /\ ∃ r H' μ', Q r /\ JP H μ obs.length (hpE 0 obs) w r e H' μ' w') (a.put o.dst x) ({ c₀ with mode := u' } :: cs) w := by
  intro x u' hx hu'
  refine wpS_of_wp (wp_mono (end_wp (n := n) (.of k5) k6 (a := a.put o.dst x) (by rw [c4]; exact hS.put (fun t e => by injection e with e; subst e; exact c6) (hx μ)) h) fun e a' w' hq => ?_)
  cases e with
  | normal => exact ⟨hq.1, u', rfl, by obtain ⟨v, q1, q2⟩ := hq.2; exact ⟨v, q1, hu', q2⟩⟩
  | ret => exact ⟨hq.1, u', rfl, by obtain ⟨v, q1, q2⟩ := hq.2; exact ⟨v, q1, hu', q2⟩⟩
  | panic ch => exact ⟨hq.1, u', rfl, hu', hq.2⟩
  | outgrown => exact ⟨iH0 true u, rfl, hq⟩
  | exit i => exact hq.elim
  | goto l => exact hq.elim
 show wpOpsS P #[o] _ [0] a (c₀ :: cs) w
 simp only [wpOpsS, List.getElem?_toArray, List.getElem?_cons_zero, hwant, if_true, hrun]
 cases pv with
 | none =>
  have hu2 : u = .returning := h3
  subst hu2
  have : recoverD (c₀ :: cs) = none := by simp [recoverD, hu]
  simp only [this]
  have := hgo .nilIface .returning (fun μ => .c _) rfl
  have hc : ({ c₀ with mode := .returning } : Frame) = c₀ := by rw [<- hu]
  rw [hc] at this
  exact this
 | some p =>
  obtain ⟨x, hx1, hx2⟩ := h3
  subst hx1
  have : recoverD (c₀ :: cs) = some (x, { c₀ with mode := .panicking [{ v := x, recovered := true }] } :: cs) := by simp [recoverD, hu]
  simp only [this]
  exact hgo x _ (fun μ => hx2.pure (hp p rfl) μ) rfl
end Go.Am
end

section
namespace Go.Am
variable {P : Program} {n : Nat} {H : Imm} {μ : Mu} {env : Env} {hp : Hp} {a : Act} {w : World}
def pc0 (P : Program) (rec : Bool) (g : FuncId) (cs : List V) (pv : Option V) (env : Env) (hp : Hp) (K : Env -> Hp -> Prop) : Prop :=
 ∃ ids : List Id, ids.Nodup /\ V.seeL false ids (Hp.frz (.tup (V.cA0 ids (cs ++ boxes hp ids))) hp) cs fun us => ∃ args, V.eS0 (toE ids 0) us = some args /\
  fm0 ids (Hp.frz (.tup (V.cA0 ids (cs ++ boxes hp ids))) hp) ids fun obs => JD P rec g args obs pv fun r => match r with
   | .ret v obs' => obs'.length <= ids.length /\ gC0 env (Hp.frz (.tup (V.cA0 ids (cs ++ boxes hp ids))) hp) ids 0 v obs' fun _ env' hp' => K env' hp'
   | .pan _ _ => False
theorem se0 {m : Sz} {rec : Bool} {g : FuncId} {cs : List V} {pv : Option V} {K : Env -> Hp -> Prop} {vals : Array Value} {u : FrameMode} (hS : Sat m H μ env hp a w) (hcs : RL H μ cs vals) (hu : PanOf H pv u)
  (h : pc0 P rec g cs pv env hp K) : (callFunc g vals).run P w = .ok (.enter g vals) w /\
   CallsD P g vals u w fun e u' w' => u' = iH0 rec u /\ ∃ v, e = .returned v /\ ∃ env' hp' H' μ', K env' hp' /\ Sat m H' μ' env' hp' a w' /\ Nx H μ hp w H' μ' hp' w' := by
 obtain ⟨ids, hnd, h⟩ := h
 obtain ⟨H1, hle, hS1, hx1⟩ := hS.frz (.tup (V.cA0 ids (cs ++ boxes hp ids)))
 obtain ⟨us, ⟨args, hm, hh⟩, hlen, hr⟩ := iQ0 hS1.wd (cs := cs) (vals := vals) (off := 0) (by rw [hcs.1]; omega)
  (fun j v hj => by rw [Nat.zero_add]; exact (hcs.2 j v hj).le hle) h
 obtain ⟨obs, hJ, hol, hob⟩ := mp0 hS1.wd hh
 obtain ⟨hWc, hown⟩ := Handed.wd (ids := ids) (obs := obs) ⟨by omega, hob⟩ hS1.wd hnd
 obtain ⟨m1, m2⟩ := dn0 hm
 have hRL : RL H1 (muE ids μ) args vals := ⟨by rw [hcs.1, m1, hlen], fun j u hj => by
  obtain ⟨v, q1, q2⟩ := m2 j u hj
  have := hr j v q1
  rw [Nat.zero_add] at this
  exact this.aQ0 (fun i i' h => pE0 h) q2⟩
 have hu1 : PanOf H1 pv u := by
  cases pv with
  | none => exact hu
  | some p => obtain ⟨x, e1, e2⟩ := hu; exact ⟨x, e1, e2.le hle⟩
 obtain ⟨r1, r2⟩ := hJ H1 (muE ids μ) vals w u hRL hWc hu1
 refine ⟨r1, r2.mono fun e u' w' ⟨hu', r, H', μ', hq, hjp⟩ => ⟨hu', ?_⟩⟩
 cases r with
 | ret v obs' =>
  obtain ⟨⟨x, rfl, hx⟩, q2, q3, q4, q5⟩ := hjp
  obtain ⟨hl, hq⟩ := hq
  rw [hol] at q4 q5
  obtain ⟨v', env', hp', μ2, p1, p2, p3, p4, p5⟩ := Sat.join hS1 hnd hown q2 q3 q4 q5 hx hq
  exact ⟨x, rfl, env', hp', H', μ2, p1, p3, hx1.trans p4⟩
 | pan v obs' => exact hq.elim
def WkE (k : Nat) (E : Env) (h : Hp) (cs' : List V) (env : Env) (hp : Hp) (cs : List V) : Prop :=
 ∀ (n : Sz) H μ a w (vals : Array Value), Sat n H μ env hp a w -> RL H μ cs vals -> ∃ μ', Sat n H μ' E h a w /\ Nj H μ hp w H μ' h w /\ (∀ j, j < k -> μ' (.e j) = μ (.e j)) /\ RL H μ' cs' vals
theorem WkE.refl {k : Nat} {cs : List V} : WkE k env hp cs env hp cs := fun n H μ a w vals hS hv => ⟨μ, hS, (Nx.refl H μ hp w).toNj, fun _ _ => rfl, hv⟩
theorem WkE.trans {k : Nat} {E1 E2 : Env} {h1 h2 : Hp} {cs cs1 cs2 : List V} (g1 : WkE k E1 h1 cs1 env hp cs) (g2 : WkE k E2 h2 cs2 E1 h1 cs1) : WkE k E2 h2 cs2 env hp cs := fun n H μ a w vals hS hv => by
 obtain ⟨μ1, q1, q2, q3, q4⟩ := g1 n H μ a w vals hS hv
 obtain ⟨μ2, r1, r2, r3, r4⟩ := g2 n H μ1 a w vals q1 q4
 exact ⟨μ2, r1, q2.trans r2, fun j hj => (r3 j hj).trans (q3 j hj), r4⟩
theorem WkE.ren {k : Nat} {E : Env} {h : Hp} {cs cs' : List V} (i : Id) (j : Nat) (hk : k <= j) (hij : i ≠ .e j) (hE : ∀ p ∈ E, aS0 env p.1 fun v => mapK (renF i (.e j)) v (· = p.2))
  (hh : ∀ p ∈ h, p.1 ≠ i /\ objK hp (bw0 i (.e j) p.1) fun o => n50 (renF i (.e j)) o (· = p.2)) (hc : fp0 (renF i (.e j)) cs (· = cs')) : WkE k E h cs' env hp cs := fun n H μ a w vals hS hv => by
 let μ' : Mu := fun x => if x = .e j then μ i else μ x
 have hμ : ∀ x x', renF i (.e j) x = some x' -> μ' x' = μ x := by
  intro x x' hx
  unfold renF at hx
  by_cases h1 : x = i
  ·subst h1; rw [if_pos rfl] at hx; injection hx with hx; subst hx; simp [μ']
  ·rw [if_neg h1] at hx
   by_cases h2 : x = .e j
   ·rw [if_pos h2] at hx; cases hx
   ·rw [if_neg h2] at hx; injection hx with hx; subst hx; simp [μ', h2]
 have hun : ∀ x, x ≠ i -> renF i (.e j) (bw0 i (.e j) x) = some x := by
  intro x hx
  unfold renF bw0
  by_cases h1 : x = .e j
  ·subst h1; simp
  ·simp [h1, hx]
 have hob : ∀ x o, h.lookup x = some o -> x ≠ i /\ ∃ o', hp.lookup (bw0 i (.e j) x) = some o' /\ o'.aQ0 (renF i (.e j)) = some o := by
  intro x o hl
  obtain ⟨h1, h2⟩ := hh (x, o) (b90 hl)
  rw [iI0] at h2
  obtain ⟨o', h3, q, h4, rfl⟩ := h2
  exact ⟨h1, o', h3, h4⟩
 have hW := hS.wd
 refine ⟨μ', ⟨hS.defers, hS.size, fun s v hs => ?_, ⟨fun x o hl => ?_, fun x y ox oy bx by' hx hox hy hoy hbx hby heq => ?_, hW.imm, hW.glo⟩⟩, ⟨Imm.le_refl H, rfl, rfl, rfl, Nat.le_refl _, fun _ _ _ => rfl, fun b hO hb => ?_, fr0⟩, fun q hq => ?_, ?_⟩
 ·have h1 := hE (s, v) (b90 hs)
  rw [ek0] at h1
  obtain ⟨u, h2, q, h3, rfl⟩ := h1
  exact R.aQ0 hμ (hS.env s u h2) h3
 ·obtain ⟨h1, o', h2, h3⟩ := hob x o hl
  exact ObOk.aQ0 hμ (hμ _ _ (hun x h1)) (hW.ob _ o' h2) h3
 ·obtain ⟨h1, o1, h2, h3⟩ := hob x ox hx
  obtain ⟨k1, o2, k2, k3⟩ := hob y oy hy
  have e1 := hμ _ _ (hun x h1)
  have e2 := hμ _ _ (hun y k1)
  have := hW.inj _ _ o1 o2 bx by' h2 (by rw [<- Ob.cu0 h3]; exact hox) k2 (by rw [<- Ob.cu0 k3]; exact hoy) (by rw [<- e1]; exact hbx) (by rw [<- e2]; exact hby) heq
  have r1 := hun x h1
  rw [this, hun y k1] at r1
  injection r1 with r1; exact r1.symm
 ·obtain ⟨x, o, blk, h1, h2, h3, h4⟩ := hO
  obtain ⟨q1, o1, q2, q3⟩ := hob x o h1
  exact ⟨_, o1, blk, q2, by rw [<- Ob.cu0 q3]; exact h2, by rw [<- hμ _ _ (hun x q1)]; exact h3, h4⟩
 ·have : q ≠ j := by omega
  simp [μ', this]
 ·obtain ⟨us, hc, rfl⟩ := hc
  obtain ⟨m1, m2⟩ := dn0 hc
  refine ⟨by rw [hv.1, m1], fun q v hq => ?_⟩
  obtain ⟨u, q1, q2⟩ := m2 q v hq
  exact R.aQ0 hμ (hv.2 q u q1) q2
def vcF (P : Program) (k : Nat) : FCd -> Env -> Hp -> Qs -> (FuncId -> List V -> Qs) -> Prop
 | .seq c f, env, hp, Q, QD => vc P c env hp (mm0 (fun e h => vcF P k f e h Q QD) Q)
 | .dfr is t args c, env, hp, Q, QD => vcIs P env hp is (fun e h => ∃ g caps vs, Env.ev e t = some (.fn g caps) /\ args.mapM (Env.ev e) = some vs /\ ∃ E h' cs', WkE k E h' cs' e h (vs ++ caps) /\ V.mx0 cs' = true /\ vc P c E h' (QD g cs')) fun v h => Q (.pan v) [] h
def PostF (n k : Nat) (H : Imm) (μ : Mu) (hp : Hp) (w : World) (Q : Qs) (QD : FuncId -> List V -> Qs) : Exit -> Act -> World -> Prop := fun e a' w' =>
 Post ⟨n, []⟩ H μ hp w Q e a' w' \/ ∃ g cv dargs cs ex env' hp' H' μ', (RL H' μ' cs (dargs ++ cv) /\ V.mx0 cs = true) /\ QD g cs ex env' hp' /\ ex.ok H' μ' e /\ Nj H μ hp w H' μ' hp' w' /\ (∀ j, j < k -> μ' (.e j) = μ (.e j)) /\
  Sat ⟨n, [{ target := .fn (.func g) cv, args := dargs }]⟩ H' μ' env' hp' a' w'
theorem PostF.trans {k : Nat} {H1 : Imm} {μ1 : Mu} {hp1 : Hp} {w1 : World} {Q : Qs} {QD : FuncId -> List V -> Qs} {e : Exit} {a' : Act} {w' : World} (h : Nx H μ hp w H1 μ1 hp1 w1) (q : PostF n k H1 μ1 hp1 w1 Q QD e a' w') : PostF n k H μ hp w Q QD e a' w' := by
 rcases q with q | ⟨g, cv, dargs, cs, ex, env', hp', H', μ', q1, q2, q3, q4, q5, q6⟩
 ·exact .inl (Post.trans h q)
 ·exact .inr ⟨g, cv, dargs, cs, ex, env', hp', H', μ', q1, q2, q3, h.toNj.trans q4, fun j hj => (q5 j hj).trans (h.ext j), q6⟩
theorem r30 {nz : Sz} {rest : List Nat} {ops : Array Oper} {Kp : V -> Hp -> Prop} {K : Env -> Hp -> Prop} : ∀ (m j : Nat) (is : List I) (env : Env) (hp : Hp), is.length = m ->
  (∀ (k : Nat) (i : I), is[k]? = some i -> ∃ o, ops[j + k]? = some o /\ eT0 P nz ops o = some i) -> vcIs P env hp is K Kp ->
  ∀ H μ a w (Q : Exit -> Act -> World -> Prop), Sat nz H μ env hp a w ->
   (∀ v x hp' H' μ' a' w', Kp v hp' -> R H' μ' v x -> Nx H μ hp w H' μ' hp' w' -> Wd H' μ' hp' w' -> a'.defers = nz.ds -> a'.tmps.size = nz.n -> Q (.panic [{ v := x, recovered := false }]) a' w') ->
   (∀ env' hp' H' μ' a' w', K env' hp' -> Sat nz H' μ' env' hp' a' w' -> Nx H μ hp w H' μ' hp' w' -> wpOps P ops Q rest a' w') ->
   wpOps P ops Q (List.range' j m ++ rest) a w := by
 intro m
 induction m with
 | zero =>
  intro j is env hp hl hget h H μ a w Q hS hQp hQ
  have : is = [] := List.eq_nil_of_length_eq_zero hl
  subst this
  exact hQ env hp H μ a w h hS (Nx.refl H μ hp w)
 | succ m ih =>
  intro j is env hp hl hget h H μ a w Q hS hQp hQ
  cases is with
  | nil => simp at hl
  | cons i is =>
   simp only [vcIs] at h
   obtain ⟨o, ho, hc⟩ := hget 0 i rfl
   rw [Nat.add_zero] at ho
   rw [List.range'_succ, List.cons_append, wpOps_cons]
   refine wpOp_mono (fun a' w' ⟨env', hp', H', μ', h1, h2, h3, hk⟩ => ?_) (sI0 ho hc h H μ a w Q hS fun v x hp' H' μ' w' k1 k2 k3 k4 => hQp v x hp' H' μ' a w' k1 k2 k3 k4 hS.defers hS.size)
   exact ih (j + 1) is env' hp' (by simpa using hl) (fun k i' hk => by
    have := hget (k + 1) i' (by simpa using hk)
    rwa [show j + (k + 1) = j + 1 + k by omega] at this) h1 H' μ' a' w' Q h2
    (fun v x hp'' H'' μ'' a'' w'' k1 k2 k3 k4 k5 k6 => hQp v x hp'' H'' μ'' a'' w'' k1 k2 (h3.trans k3) k4 k5 k6)
    (fun env'' hp'' H'' μ'' a'' w'' k1 k2 k3 => hQ env'' hp'' H'' μ'' a'' w'' k1 k2 (h3.trans k3))
theorem qR0 {ops : Array Oper} {t : Operand} {args : List Operand} (h : rB0 ops = some (t, args)) : ∃ o at1, ops.toList = ops.toList.dropLast ++ [o] /\ o.op = .defer ⟨.value t, args.toArray, at1⟩ /\ o.dst = none /\ o.guard = none := by
 unfold rB0 at h
 split at h
 ·rename_i o ho
  split at h
  ·rename_i t' args' at1 h1 h2 h3
   simp only [Option.some.injEq, Prod.mk.injEq] at h
   obtain ⟨rfl, rfl⟩ := h
   exact ⟨o, at1, by obtain ⟨ys, e⟩ := List.getLast?_eq_some_iff.1 ho; rw [e]; simp, by simpa using h1, h2, h3⟩
  ·cases h
 ·cases h
theorem vcF_ok {k : Nat} : ∀ {c : Code} {fc : FCd}, qx0 P n c = some fc -> ∀ {env : Env} {hp : Hp} {Q : Qs} {QD : FuncId -> List V -> Qs}, vcF P k fc env hp Q QD ->
  ∀ H μ a w, Sat ⟨n, []⟩ H μ env hp a w -> c.wp P (PostF n k H μ hp w Q QD) a w := by
 intro c
 induction c with
 | seq x y ihx ihy =>
  have plain : ∀ {cx : Cd} {fy : FCd}, cG0 P n x = some cx -> qx0 P n y = some fy -> ∀ {env : Env} {hp : Hp} {Q : Qs} {QD : FuncId -> List V -> Qs}, vcF P k (.seq cx fy) env hp Q QD ->
    ∀ H μ a w, Sat ⟨n, []⟩ H μ env hp a w -> (Code.seq x y).wp P (PostF n k H μ hp w Q QD) a w := by
   intro cx fy hx hy env hp Q QD h H μ a w hS
   refine wp_seq (wp_mono (vc_ok (n := ⟨n, []⟩) hx h H μ a w hS) fun e a' w' hpo => ?_)
   obtain ⟨ex, env', hp', H', μ', q1, q2, q3, q4⟩ := hpo
   cases ex with
   | normal =>
    have : e = .normal := (iJ0 q2).2 rfl
    subst this
    exact wp_mono (ihy hy q1 H' μ' a' w' q4) fun e a'' w'' hh => hh.trans q3
   | exit i => cases e <;> simp only [Ex.ok] at q2; exact .inl ⟨.exit i, env', hp', H', μ', q1, q2, q3, q4⟩
   | ret => cases e <;> simp only [Ex.ok] at q2; exact .inl ⟨.ret, env', hp', H', μ', q1, trivial, q3, q4⟩
   | pan v => cases e <;> simp only [Ex.ok] at q2; exact .inl ⟨.pan v, env', hp', H', μ', q1, q2, q3, q4⟩
  intro fc hc env hp Q QD h H μ a w hS
  unfold qx0 at hc
  split at hc
  ·rename_i id ops y' heq
   injection heq with e1 e2
   subst e1; subst e2
   split at hc
   ·rename_i t args hl
    split at hc
    ·rename_i is cy hi hy
     simp only [Option.some.injEq] at hc; subst hc
     obtain ⟨o, at1, l1, l2, l3, l4⟩ := qR0 hl
     obtain ⟨r1, r2⟩ := gI0 (n := ⟨n, []⟩) hi
     have hsz : ops.size = is.length + 1 := by
      have := congrArg List.length l1
      rw [r1]; simpa using this
     have hlast : ops[is.length]? = some o := by
      have : ops.toList[is.length]? = some o := by rw [l1, r1]; simp
      simpa using this
     refine wp_seq (wp_region ?_)
     rw [List.range_eq_range', hsz, List.range'_1_concat, Nat.zero_add]
     refine r30 (nz := ⟨n, []⟩) is.length 0 is env hp rfl (fun k i hk => ?_) h H μ a w _ hS (fun v x hp' H' μ' a' w' k1 k2 k3 k4 k5 k6 => ?_) (fun env' hp' H' μ' a' w' k1 k2 k3 => ?_)
     ·have hk' : k < ops.toList.dropLast.length := by rw [<- r1]; exact (List.getElem?_eq_some_iff.1 hk).1
      obtain ⟨i', h1, h2⟩ := r2 k ops.toList.dropLast[k] (List.getElem?_eq_getElem hk')
      rw [hk] at h1; injection h1 with h1; subst h1
      refine ⟨_, ?_, h2⟩
      rw [Nat.zero_add]
      have : ops.toList[k]? = some ops.toList.dropLast[k] := by
       conv => lhs; rw [l1]
       rw [List.getElem?_append_left hk', List.getElem?_eq_getElem hk']
      simp
     ·exact .inl ⟨.pan v, [], hp', H', μ', k1, ⟨x, rfl, k2⟩, k3, Sat.bare k5 k6 k4⟩
     ·obtain ⟨g, caps, vs, g1, g2, E, h', cs', g3, g4, g5⟩ := k1
      obtain ⟨cv, ef, hcv⟩ := mN0 (c00 k2 g1)
      have hargs := lC0 (rho k2) args vs g2
      have hall := hargs.append hcv
      obtain ⟨μ2, s1, s2, s3, s4⟩ := g3 _ H' μ' a' w' _ k2 hall
      rw [wpOps_cons]
      unfold wpOp
      simp only [hlast]
      have hw : Region.wanted o (yielded ops a'.tmps) = true := by simp [Region.wanted, l4]
      rw [if_pos hw]
      refine .inl ?_
      unfold Oper.wp
      have hrun : (execOp a'.eval o).run P w' = .ok (.defer { target := .fn (.func g) cv, args := args.toArray.map a'.eval }) w' := by
       simp [execOp, l2, resolve, ef, Deferred.ofValue]
      rw [hrun]
      simp only [Oper.upon, l3]
      show (Code.wp P _ _ _ _)
      have hd : a'.defers = [] := k2.defers
      have hS2 : Sat ⟨n, [{ target := .fn (.func g) cv, args := args.toArray.map a'.eval }]⟩ H' μ2 E h' { a' with defers := { target := .fn (.func g) cv, args := args.toArray.map a'.eval } :: a'.defers } w' :=
       ⟨by simp [hd], s1.size, s1.env, s1.wd⟩
      refine wp_mono (vc_ok (n := ⟨n, [{ target := .fn (.func g) cv, args := args.toArray.map a'.eval }]⟩) hy g5 H' μ2 _ w' hS2) fun e a'' w'' hpo => ?_
      obtain ⟨ex, env2, hp2, H2, μ3, q1, q2, q3, q4⟩ := hpo
      refine .inr ⟨g, cv, _, cs', ex, env2, hp2, H2, μ3, ⟨?_, g4⟩, q1, q2, (k3.toNj.trans s2).trans q3.toNj, fun j hj => (q3.ext j).trans ((s3 j hj).trans (k3.ext j)), q4⟩
      refine ⟨s4.1, fun q v hq => (s4.2 q v hq).mono q3.imm fun i hi => ?_⟩
      obtain ⟨j, rfl⟩ := V.gA0 g4 (V.hL0 hq hi)
      exact q3.ext j
    ·cases hc
   ·split at hc
    ·rename_i cx fy hx hy
     simp only [Option.some.injEq] at hc; subst hc
     exact plain hx hy h H μ a w hS
    ·cases hc
  ·rename_i x' y' hno heq
   injection heq with e1 e2
   subst e1; subst e2
   split at hc
   ·rename_i cx fy hx hy
    simp only [Option.some.injEq] at hc; subst hc
    exact plain hx hy h H μ a w hS
   ·cases hc
  ·cases hc
 | _ => intro fc hc; simp [qx0] at hc
end Go.Am
end

section
namespace Go.Am
variable {P : Program} {n : Nat} {H : Imm} {μ : Mu} {env : Env} {hp : Hp} {a : Act} {w : World}
def dEnd (P : Program) (k : Nat) (rs : List IOp) (Q : Res -> Prop) (rec : Bool) (g : FuncId) (cs : List V) : Qs
 | .normal, env, hp | .ret, env, hp => ∃ E h, Wk E h env hp /\ pc0 P rec g cs none E h fun env' hp' => ∃ E' h', Wk E' h' env' hp' /\ retX k rs Q .ret E' h'
 | .pan p, env, hp => p.pure = true /\ ∃ E h, Wk E h env hp /\ pc0 P rec g cs (some p) E h fun env' hp' => match rec with
  | true => ∃ E' h', Wk E' h' env' hp' /\ retX k rs Q .ret E' h'
  | false => retX k rs Q (.pan p) env' hp'
 | .exit _, _, _ => False
theorem lA0 {m : Sz} {fn : Func} {rs : List IOp} {k : Nat} {Q : Res -> Prop} {H0 : Imm} {μ0 : Mu} {hp0 : Hp} {w0 : World} (k6 : gf0 P fn.results.toList = some rs) (hS : Sat m H μ env hp a w)
  (hN : Nj H0 μ0 hp0 w0 H μ hp w) (hext : ∀ j, j < k -> μ (.e j) = μ0 (.e j)) (h : ∃ E' h', Wk E' h' env hp /\ retX k rs Q .ret E' h') :
  Leaves P fn a.tmps (fun e w' => ∃ r H' μ', Q r /\ JP H0 μ0 k hp0 w0 r e H' μ' w') [] .returning w := by
 obtain ⟨E, h', hwk, h⟩ := h
 obtain ⟨μ2, r1, r2⟩ := hwk m H μ a w hS
 obtain ⟨x, x1, x2⟩ := fin_ret k6 r1 (hN.trans r2.toNj) (fun j hj => (r2.ext j).trans (hext j hj)) h
 exact ⟨x, x1, x2⟩
theorem J_dfr {f : FuncId} {fc : FCd} {rs : List IOp} {args : List V} {obs : List Ob} {Q : Res -> Prop} (rec : Bool) (hf : FnD P f n fc rs) (hlen : args.length <= n)
  (h : vcF P obs.length fc (ci0 0 args) (hpE 0 obs) (wkQ (retX obs.length rs Q)) (dEnd P obs.length rs Q rec)) : J P f args obs Q := by
 intro H μ vs w h1 h2
 obtain ⟨fn, c, k1, k2, k3, k4, k5, k6⟩ := hf.ex
 have hrun : (callFunc f vs).run P w = .ok (.enter f vs) w := by
  have k2' : ¬ fn.name = "runtime.NumGoroutine" := by simpa using k2
  simp [callFunc, k1, k2', k3]
 unfold e00
 rw [hrun]
 refine calls_of_wp_defers k1 k3 ?_
 rw [k4]
 have hS := ra0 (w := w) (hp := hpE 0 obs) hlen h1 h2
 refine wp_mono (vcF_ok (k := obs.length) k5 h H μ _ w hS) fun e a' w' hpo => ?_
 rcases hpo with hpo | hpo
 ·obtain ⟨ex, env', hp', H', μ', q1, q2, q3, q4⟩ := hpo
  have hd : a'.defers = [] := q4.defers
  have hret : ex = .normal \/ ex = .ret -> Leaves P fn a'.tmps (fun e w' => ∃ r H' μ', Q r /\ JP H μ obs.length (hpE 0 obs) w r e H' μ' w') [] .returning w' := by
   intro q
   refine lA0 k6 q4 q3.toNj (fun j _ => q3.ext j) ?_
   rcases q with rfl | rfl
   ·obtain ⟨E, h, r1, r2⟩ := q1; exact ⟨E, h, r1, r2⟩
   ·exact q1
  cases ex with
  | normal => cases e <;> simp only [Ex.ok] at q2; simp only [bodyPostD, hd]; exact hret (.inl rfl)
  | ret => cases e <;> simp only [Ex.ok] at q2; simp only [bodyPostD, hd]; exact hret (.inr rfl)
  | exit i => exact q1.elim
  | pan v =>
   cases e <;> simp only [Ex.ok] at q2
   obtain ⟨x, rfl, hx⟩ := q2
   simp only [bodyPostD, hd]
   exact rt0 (env := env') (rs := rs) hx q4.wd q3.toNj (fun j _ => q3.ext j) q1
 ·obtain ⟨g, cv, dargs, cs, ex, env', hp', H', μ', ⟨q0, qe⟩, q1, q2, q3, q5, q4⟩ := hpo
  have hd : a'.defers = [{ target := .fn (.func g) cv, args := dargs }] := q4.defers
  have wk : ∀ {E : Env} {h : Hp}, Wk E h env' hp' -> ∃ μ2, Sat ⟨n, [{ target := .fn (.func g) cv, args := dargs }]⟩ H' μ2 E h a' w' /\ Nx H' μ' hp' w' H' μ2 h w' /\ RL H' μ2 cs (dargs ++ cv) := by
   intro E h hwk
   obtain ⟨μ2, r1, r2⟩ := hwk _ H' μ' a' w' q4
   refine ⟨μ2, r1, r2, q0.1, fun q v hq => (q0.2 q v hq).mono (Imm.le_refl _) fun i hi => ?_⟩
   obtain ⟨j, rfl⟩ := V.gA0 qe (V.hL0 hq hi)
   exact r2.ext j
  have hinv : (callFunc g (dargs ++ cv)).run P w' = .ok (.enter g (dargs ++ cv)) w' -> (invoke (.fn (.func g) cv) dargs).run P w' = .ok (.enter g (dargs ++ cv)) w' := fun h => h
  have hret : (∃ E h, Wk E h env' hp' /\ pc0 P rec g cs none E h fun env' hp' => ∃ E' h', Wk E' h' env' hp' /\ retX obs.length rs Q .ret E' h') ->
    Leaves P fn a'.tmps (fun e w' => ∃ r H' μ', Q r /\ JP H μ obs.length (hpE 0 obs) w r e H' μ' w') a'.defers .returning w' := by
   rintro ⟨E, h, r1, r2⟩
   obtain ⟨μ2, s1, s2, s3⟩ := wk r1
   obtain ⟨t1, t2⟩ := se0 (pv := none) s1 s3 (u := .returning) rfl r2
   rw [hd]
   refine leaves_cons (by simp) (hinv t1) (t2.mono fun e u' w'' hq => ?_)
   obtain ⟨hu, v, rfl, env2, hp2, H2, μ3, p1, p2, p3⟩ := hq
   have : settle u' = .returning := by rw [hu]; cases rec <;> rfl
   simp only [this]
   exact lA0 k6 p2 ((q3.trans s2.toNj).trans p3.toNj) (fun j hj => (p3.ext j).trans ((s2.ext j).trans (q5 j hj))) p1
  cases ex with
  | normal => cases e <;> simp only [Ex.ok] at q2; exact hret q1
  | ret => cases e <;> simp only [Ex.ok] at q2; exact hret q1
  | exit i => exact q1.elim
  | pan p =>
   cases e <;> simp only [Ex.ok] at q2
   obtain ⟨x, rfl, hx⟩ := q2
   obtain ⟨hp, E, h, r1, r2⟩ := q1
   obtain ⟨μ2, s1, s2, s3⟩ := wk r1
   have hx0 : R H' Mu.bot p x := hx.pure hp Mu.bot
   obtain ⟨t1, t2⟩ := se0 (pv := some p) s1 s3 (u := .panicking [{ v := x, recovered := false }]) ⟨x, rfl, hx0⟩ r2
   simp only [bodyPostD, hd]
   refine leaves_cons (by simp) (hinv t1) (t2.mono fun e u' w'' hq => ?_)
   obtain ⟨hu, v, rfl, env2, hp2, H2, μ3, p1, p2, p3⟩ := hq
   have hN := (q3.trans s2.toNj).trans p3.toNj
   have hE : ∀ j, j < obs.length -> μ3 (.e j) = μ (.e j) := fun j hj => (p3.ext j).trans ((s2.ext j).trans (q5 j hj))
   cases rec with
   | true =>
    have : settle u' = .returning := by rw [hu]; rfl
    simp only [this]
    exact lA0 k6 p2 hN hE p1
   | false =>
    have : settle u' = .panicking [{ v := x, recovered := false }] := by rw [hu]; rfl
    simp only [this]
    exact rt0 (env := env2) (rs := rs) ((hx0.pure hp μ3).le p3.imm) p2.wd hN hE p1
end Go.Am
end

section
namespace Go.Am
variable {P : Program} {env : Env} {hp : Hp}
@[simp] theorem intO_tmp {t : Nat} {d : Int} {K : Int -> Prop} : intO (some (Env.ev env (.tmp t))) d K = aS0 env t (hold fun v => intK v (hold fun _ n => K n)) := by
 simp only [ek0, hold]
 show intO (some (env.lookup t)) d K = _
 cases h : env.lookup t with
 | none => simp [intO]
 | some v => cases v with
  | c x => cases x <;> simp [intO, intK]
  | _ => simp [intO, intK]
@[simp] theorem intO_const {k : IntKind} {i d : Int} {K : Int -> Prop} : intO (some (Env.ev env (.const (.int k i)))) d K = K i := _root_.id rfl
theorem fa0 {xs : List (List V)} {k : Nat} {e : List V} {K : List V -> Prop} (h : xs[k]? = some e) : gr0 xs k K = K e := by simp [gr0, h]
theorem endP {k : Nat} {rs : List IOp} {Q : Res -> Prop} {v : V} (h : outV hp (esL 0 k) v (hold fun u obs => Q (.pan u obs))) : wkQ (retX k rs Q) (.pan v) env hp := h
@[simp high] theorem nth_lit1 {α : Type} {x0 x1 : α} {l : List α} : (x0 :: x1 :: l)[1]? = some x1 := rfl
@[simp high] theorem nth_lit2 {α : Type} {x0 x1 x2 : α} {l : List α} : (x0 :: x1 :: x2 :: l)[2]? = some x2 := rfl
@[simp high] theorem nth_lit3 {α : Type} {x0 x1 x2 x3 : α} {l : List α} : (x0 :: x1 :: x2 :: x3 :: l)[3]? = some x3 := rfl
@[simp high] theorem nth_lit4 {α : Type} {x0 x1 x2 x3 x4 : α} {l : List α} : (x0 :: x1 :: x2 :: x3 :: x4 :: l)[4]? = some x4 := rfl
@[simp high] theorem nth_lit5 {α : Type} {x0 x1 x2 x3 x4 x5 : α} {l : List α} : (x0 :: x1 :: x2 :: x3 :: x4 :: x5 :: l)[5]? = some x5 := rfl
@[simp high] theorem nth_lit6 {α : Type} {x0 x1 x2 x3 x4 x5 x6 : α} {l : List α} : (x0 :: x1 :: x2 :: x3 :: x4 :: x5 :: x6 :: l)[6]? = some x6 := rfl
@[simp high] theorem nth_lit7 {α : Type} {x0 x1 x2 x3 x4 x5 x6 x7 : α} {l : List α} : (x0 :: x1 :: x2 :: x3 :: x4 :: x5 :: x6 :: x7 :: l)[7]? = some x7 := rfl
@[simp high] theorem nth_lit8 {α : Type} {x0 x1 x2 x3 x4 x5 x6 x7 x8 : α} {l : List α} : (x0 :: x1 :: x2 :: x3 :: x4 :: x5 :: x6 :: x7 :: x8 :: l)[8]? = some x8 := rfl
@[simp high] theorem nth_lit9 {α : Type} {x0 x1 x2 x3 x4 x5 x6 x7 x8 x9 : α} {l : List α} : (x0 :: x1 :: x2 :: x3 :: x4 :: x5 :: x6 :: x7 :: x8 :: x9 :: l)[9]? = some x9 := rfl
end Go.Am
end

section
namespace Go.Am
variable {P : Program}
theorem JP.congr {H : Imm} {μ : Mu} {k : Nat} {hp hq : Hp} {w : World} (ho : ∀ b, Owns hq μ b ↔ Owns hp μ b) {r : Res} {e : Ending} {H' : Imm} {μ' : Mu} {w' : World} (h : JP H μ k hp w r e H' μ' w') : JP H μ k hq w r e H' μ' w' := by
 have nj : ∀ {hp' : Hp}, Nj H μ hp w H' μ' hp' w' -> Nj H μ hq w H' μ' hp' w' := fun n =>
  ⟨n.imm, n.os, n.tape, n.output, n.size, fun b hb hno => n.keep b hb fun h => hno ((ho b).2 h), fun b h hb => (ho b).2 (n.own b h hb), fun b cs h h0 => (n.fresh b cs h h0).imp id (ho b).2⟩
 cases r with
 | ret v obs => exact ⟨h.1, nj h.2.1, h.2.2⟩
 | pan v obs => exact ⟨h.1, nj h.2.1, h.2.2⟩
def rest (vals : Array Value) (sz k m : Nat) : List (List V) := (List.range m).map fun j => (List.range sz).map fun q => V.c (vals.getD ((k + j) * sz + q) undef)
theorem pM0 {vals : Array Value} {sz k m j : Nat} {e : List V} (h : (rest vals sz k m)[j]? = some e) : j < m /\ e = (List.range sz).map fun q => V.c (vals.getD ((k + j) * sz + q) undef) := by
 unfold rest at h
 rw [List.getElem?_map] at h
 cases hr : (List.range m)[j]? with
 | none => rw [hr] at h; cases h
 | some i =>
  rw [hr] at h
  simp only [Option.map_some, Option.some.injEq] at h
  have hlt : j < m := by have := (List.getElem?_eq_some_iff.1 hr).1; simpa using this
  have : i = j := by rw [List.getElem?_range hlt] at hr; injection hr with hr; exact hr.symm
  subst this
  exact ⟨hlt, h.symm⟩
theorem J_cap {f : FuncId} {m ty sz : Nat} {xs : List (List V)} {asV : List V} {os : List Ob} {Q : Res -> Prop}
  (h : ∀ (c : Nat) (js : List (List V)), m <= c -> (c = 0 /\ js = [] \/ (xs ++ js).length = c) -> (∀ e ∈ js, e.length = sz /\ scalars e = true /\ V.bD0 e = true) -> J P f (.arc (.e 0) 0 m c :: asV) (.row ty sz true (xs ++ js) :: os) Q) :
  J P f (.arr (.e 0) 0 m :: asV) (.row ty sz true xs :: os) Q := by
 intro H μ vs w hv hW
 have h0 := hv.2 0 (.arr (.e 0) 0 m) rfl
 have hlk : (hpE 0 (.row ty sz true xs :: os)).lookup (.e 0) = some (.row ty sz true xs) := by simp [hpE]
 have key : ∀ (c : Nat) (js : List (List V)), m <= c -> (c = 0 /\ js = [] \/ (xs ++ js).length = c) -> (∀ e ∈ js, e.length = sz /\ scalars e = true /\ V.bD0 e = true) -> R H μ (.arc (.e 0) 0 m c) (vs.getD 0 undef) -> ObOk H μ w (.e 0) (.row ty sz true (xs ++ js)) ->
   e00 P f vs w fun e w' => ∃ r H' μ', Q r /\ JP H μ (Ob.row ty sz true xs :: os).length (hpE 0 (.row ty sz true xs :: os)) w r e H' μ' w' := by
  intro c js h1 h2 h3 h4 h5
  have hcase : ∀ i o, (hpE 0 (.row ty sz true (xs ++ js) :: os)).lookup i = some o -> (i = .e 0 /\ o = .row ty sz true (xs ++ js)) \/ (i ≠ .e 0 /\ (hpE 0 (.row ty sz true xs :: os)).lookup i = some o) := by
   intro i o hl
   simp only [hpE, List.lookup_cons] at hl ⊢
   by_cases hi : i = .e 0
   ·subst hi; simp at hl; exact .inl ⟨rfl, hl.symm⟩
   ·have : (i == Id.e 0) = false := by simpa using hi
    rw [this] at hl ⊢
    exact .inr ⟨hi, hl⟩
  have hcase2 : ∀ i o, (hpE 0 (.row ty sz true xs :: os)).lookup i = some o -> (i = .e 0 /\ o = .row ty sz true xs) \/ (i ≠ .e 0 /\ (hpE 0 (.row ty sz true (xs ++ js) :: os)).lookup i = some o) := by
   intro i o hl
   simp only [hpE, List.lookup_cons] at hl ⊢
   by_cases hi : i = .e 0
   ·subst hi; simp at hl; exact .inl ⟨rfl, hl.symm⟩
   ·have : (i == Id.e 0) = false := by simpa using hi
    rw [this] at hl ⊢
    exact .inr ⟨hi, hl⟩
  have hlk' : (hpE 0 (.row ty sz true (xs ++ js) :: os)).lookup (.e 0) = some (.row ty sz true (xs ++ js)) := by simp [hpE]
  have hO : ∀ b, Owns (hpE 0 (.row ty sz true xs :: os)) μ b ↔ Owns (hpE 0 (.row ty sz true (xs ++ js) :: os)) μ b := by
   intro b
   constructor
   ·rintro ⟨i, o, blk, q1, q2, q3, q4⟩
    rcases hcase2 i o q1 with ⟨rfl, rfl⟩ | ⟨_, q⟩
    ·exact ⟨_, _, blk, hlk', rfl, q3, q4⟩
    ·exact ⟨i, o, blk, q, q2, q3, q4⟩
   ·rintro ⟨i, o, blk, q1, q2, q3, q4⟩
    rcases hcase i o q1 with ⟨rfl, rfl⟩ | ⟨_, q⟩
    ·exact ⟨_, _, blk, hlk, rfl, q3, q4⟩
    ·exact ⟨i, o, blk, q, q2, q3, q4⟩
  have back : ∀ i o, (hpE 0 (.row ty sz true (xs ++ js) :: os)).lookup i = some o -> o.own = true -> ∃ o', (hpE 0 (.row ty sz true xs :: os)).lookup i = some o' /\ o'.own = true := by
   intro i o hl ho
   rcases hcase i o hl with ⟨rfl, rfl⟩ | ⟨_, q⟩
   ·exact ⟨_, hlk, rfl⟩
   ·exact ⟨o, q, ho⟩
  have hW' : Wd H μ (hpE 0 (.row ty sz true (xs ++ js) :: os)) w := by
   refine ⟨fun i o hl => ?_, fun i j oi oj bi bj hi hoi hj hoj hbi hbj e => ?_, hW.imm, hW.glo⟩
   ·rcases hcase i o hl with ⟨rfl, rfl⟩ | ⟨_, q⟩
    ·exact h5
    ·exact hW.ob i o q
   ·obtain ⟨o1, a1, a2⟩ := back i oi hi hoi
    obtain ⟨o2, b1, b2⟩ := back j oj hj hoj
    exact hW.inj i j o1 o2 bi bj a1 a2 b1 b2 hbi hbj e
  have hv' : RL H μ (.arc (.e 0) 0 m c :: asV) vs := ⟨by simpa using hv.1, fun j v hj => by
   cases j with
   | zero => simp at hj; subst hj; exact h4
   | succ j => exact hv.2 (j + 1) v (by simpa using hj)⟩
  refine (h c js h1 h2 h3 H μ vs w hv' hW').mono fun e w' ⟨r, H', μ', q1, q2⟩ => ⟨r, H', μ', q1, ?_⟩
  have hk : (Ob.row ty sz true (xs ++ js) :: os).length = (Ob.row ty sz true xs :: os).length := rfl
  rw [hk] at q2
  exact q2.congr hO
 generalize vs.getD 0 undef = x at h0 key
 cases h0 with
 | arr _ _ _ a cap hc hb =>
 rcases hb with rfl | ⟨blk, b1, b2, b3⟩
 ·exact key 0 [] hc (.inl ⟨rfl, rfl⟩) (by simp) (.arc _ _ _ _ _ hc (.inl rfl)) (by simpa using hW.ob _ _ hlk)
 ·rcases hW.ob _ _ hlk with ⟨rfl, z⟩ | ⟨blk', vals, k1, ⟨k2, k2', k2''⟩, k3, k4, k5, k6, k7, k8, k9⟩
  ·rw [z] at b1; cases b1
  rw [b1] at k1; injection k1 with k1; subst k1
  have hcap : cap = blk.cap := by omega
  have hlen : (rest vals sz xs.length (cap - xs.length)).length = cap - xs.length := by simp [rest]
  have hone := k2'' rfl
  have hin : ∀ {j q : Nat}, j < cap - xs.length -> q < sz -> (xs.length + j) * sz + q < vals.size := by
   intro j q hj hq
   rw [k4, <- hcap]
   have : (xs.length + j + 1) * sz <= cap * sz := Nat.mul_le_mul_right _ (by omega)
   rw [Nat.add_mul] at this; omega
  refine key cap (rest vals sz xs.length (cap - xs.length)) hc (.inr (by rw [List.length_append, hlen]; omega)) (fun e he => ?_) (.arc _ _ _ _ _ hc (.inr ⟨blk, b1, b2, b3⟩)) (.inr ⟨blk, vals, b1, ⟨k2, k2', k2''⟩, k3, k4, by rw [List.length_append, hlen]; omega, fun k e he => ?_, k7, k8, fun k e he => ?_⟩)
  ·obtain ⟨j, hj⟩ := List.mem_iff_getElem?.1 he
   obtain ⟨g1, rfl⟩ := pM0 hj
   refine ⟨by simp, je0 fun q v hq => ?_, ?_⟩
   ·rw [List.getElem?_map] at hq
    cases hr : (List.range sz)[q]? with
    | none => rw [hr] at hq; cases hq
    | some q' =>
     have hlt : q < sz := by have := (List.getElem?_eq_some_iff.1 hr).1; simpa using this
     rw [List.getElem?_range hlt] at hr; injection hr with hr; subst hr
     rw [List.getElem?_range hlt] at hq
     simp only [Option.map_some, Option.some.injEq] at hq; subst hq
     have hb := hin g1 hlt
     simp only [V.scalar]
     refine hone ((xs.length + j) * sz + q) _ ?_
     rw [Array.getD_eq_getD_getElem?, Array.getElem?_eq_getElem hb]; rfl
   ·clear he hj
    induction (List.range sz) with
    | nil => rfl
    | cons a l ih => simp only [List.map_cons, V.bD0, V.pure, Bool.true_and]; exact ih
  ·rw [List.getElem?_append] at he
   split at he
   ·exact k6 k e he
   ·obtain ⟨g1, rfl⟩ := pM0 he
    refine ⟨by simp, je0 fun q v hq => ?_⟩
    rw [List.getElem?_map] at hq
    cases hr : (List.range sz)[q]? with
    | none => rw [hr] at hq; cases hq
    | some q' =>
     have hlt : q < sz := by have := (List.getElem?_eq_some_iff.1 hr).1; simpa using this
     rw [List.getElem?_range hlt] at hr; injection hr with hr; subst hr
     rw [List.getElem?_range hlt] at hq
     simp only [Option.map_some, Option.some.injEq] at hq; subst hq
     have hb := hin g1 hlt
     simp only [V.scalar]
     refine hone ((xs.length + (k - xs.length)) * sz + q) _ ?_
     rw [Array.getD_eq_getD_getElem?, Array.getElem?_eq_getElem hb]; rfl
  ·rw [List.getElem?_append] at he
   split at he
   ·exact k9 k e he
   ·rename_i hge
    obtain ⟨g1, rfl⟩ := pM0 he
    intro q v hq
    rw [List.getElem?_map] at hq
    cases hr : (List.range sz)[q]? with
    | none => rw [hr] at hq; cases hq
    | some q' =>
     have hlt : q < sz := by have := (List.getElem?_eq_some_iff.1 hr).1; simpa using this
     rw [List.getElem?_range hlt] at hr; injection hr with hr; subst hr
     rw [List.getElem?_range hlt] at hq
     simp only [Option.map_some, Option.some.injEq] at hq; subst hq
     have hb := hin g1 hlt
     refine ⟨vals.getD ((xs.length + (k - xs.length)) * sz + q) undef, ?_, .c _⟩
     rw [Array.getD_eq_getD_getElem?, Array.getElem?_eq_getElem hb]
     have hk' : xs.length + (k - xs.length) = k := by omega
     simp only [hk'] at hb ⊢
     rw [Array.getElem?_eq_getElem hb]; rfl
def preO (o' o : Ob) : Prop := o' = o \/ ∃ ty sz own xs t, o = .row ty sz own (xs ++ t) /\ o' = .row ty sz own xs
theorem preO_row {ty sz : Nat} {own : Bool} {xs t ys : List (List V)} (h : ys = xs ++ t) : preO (.row ty sz own xs) (.row ty sz own ys) := .inr ⟨ty, sz, own, xs, t, by rw [h], rfl⟩
theorem ObOk.pre {H : Imm} {μ : Mu} {w : World} {i : Id} {o o' : Ob} (h : ObOk H μ w i o) (hp : preO o' o) : ObOk H μ w i o' /\ o'.own = o.own := by
 rcases hp with rfl | ⟨ty, sz, own, xs, t, rfl, rfl⟩
 ·exact ⟨h, rfl⟩
 ·refine ⟨?_, rfl⟩
  rcases h with ⟨h1, h2⟩ | ⟨blk, vals, h1, h2, h3, h4, h5, h6, h7, h8, h9⟩
  ·exact .inl ⟨(List.append_eq_nil_iff.1 h1).1, h2⟩
  ·have get : ∀ (k : Nat) (e : List V), xs[k]? = some e -> (xs ++ t)[k]? = some e := fun k e he => by
    rw [List.getElem?_append_left (List.getElem?_eq_some_iff.1 he).1]; exact he
   exact .inr ⟨blk, vals, h1, h2, h3, h4, by simp at h5; omega, fun k e he => h6 k e (get k e he), h7, h8, fun k e he => h9 k e (get k e he)⟩
theorem Wk.pre {env E : Env} {hp h : Hp} (hE : ∀ p ∈ E, aS0 env p.1 (· = p.2)) (hh : ∀ p ∈ h, objK hp p.1 fun o => preO p.2 o) : Wk E h env hp := fun n H μ a w hS => by
 have hob : ∀ i o, h.lookup i = some o -> ∃ o', hp.lookup i = some o' /\ preO o o' := by
  intro i o hl
  have := hh (i, o) (b90 hl)
  rw [iI0] at this
  exact this
 have hW := hS.wd
 refine ⟨μ, ⟨hS.defers, hS.size, fun s v hs => ?_, ⟨fun i o hl => ?_, fun i j oi oj bi bj hi hoi hj hoj hbi hbj e => ?_, hW.imm, hW.glo⟩⟩, ⟨⟨Imm.le_refl H, rfl, rfl, rfl, Nat.le_refl _, fun _ _ _ => rfl, fun b hO _ => ?_, fr0⟩, fun _ => rfl⟩⟩
 ·have h1 := hE (s, v) (b90 hs)
  rw [ek0] at h1
  obtain ⟨u, h2, rfl⟩ := h1
  exact hS.env s u h2
 ·obtain ⟨o', h1, h2⟩ := hob i o hl
  exact ((hW.ob i o' h1).pre h2).1
 ·obtain ⟨o1, h1, h2⟩ := hob i oi hi
  obtain ⟨o2, k1, k2⟩ := hob j oj hj
  exact hW.inj i j o1 o2 bi bj h1 (by rw [<- ((hW.ob i o1 h1).pre h2).2]; exact hoi) k1 (by rw [<- ((hW.ob j o2 k1).pre k2).2]; exact hoj) hbi hbj e
 ·obtain ⟨i, o, blk, h1, h2, h3, h4⟩ := hO
  obtain ⟨o', k1, k2⟩ := hob i o h1
  exact ⟨i, o', blk, k1, by rw [<- ((hW.ob i o' k1).pre k2).2]; exact h2, h3, h4⟩
theorem sN0 {f : FuncId} {fn : Func} {tS tR e : TypeId} {sz : Nat} (hf : P.funcs[f]? = some fn) (hn : (fn.name == "runtime.NumGoroutine") = false) (hb : fn.body.isNone = true) (h1 : (Extern.findNext fn).isNone = true)
  (he : Extern.find fn = some (Extern.SlicesOverlaps.overlaps #[tS, tS] #[tR])) (ht : P.underlying tS = some (.slice e)) (hz : (P.info? e).map (·.size) = some sz) (ty o m o' m' : Nat) (xs ys : List (List V)) (hpos : 0 < sz) :
  J P f [.arr (.e 0) o m, .arr (.e 1) o' m'] [.row ty sz true xs, .row ty sz true ys] (· = .ret (.c (.bool false)) [.row ty sz true xs, .row ty sz true ys]) := by
 intro H μ vs w hv hW
 have r0 := hv.2 0 _ rfl
 have r1 := hv.2 1 _ rfl
 have hvs : vs = #[vs.getD 0 undef, vs.getD 1 undef] := by
  apply Array.ext
  ·have := hv.1; simpa using this
  ·intro i h1 h2
   have : i = 0 \/ i = 1 := by simp at h2; omega
   have hs : vs.size = 2 := by have := hv.1; simpa using this
   rcases this with rfl | rfl <;> simp [Array.getD, hs]
 have hrun : ((Extern.SlicesOverlaps.overlaps #[tS, tS] #[tR]) vs).run P w = .ok (.bool false) w := by
  rw [hvs]
  generalize vs.getD 0 undef = x at r0
  generalize vs.getD 1 undef = y at r1
  have hsz : ∀ w, (Go.sizeOf e).run P w = .ok sz w := by
   intro w
   cases hi : P.info? e with
   | none => rw [hi] at hz; cases hz
   | some i => rw [hi] at hz; simp at hz; subst hz; simp [sizeOf, typeInfo, hi]
  cases r0 with
  | arr _ _ _ a c hc ha =>
  cases r1 with
  | arr _ _ _ b c' hc' hb' =>
  have triv : (a = none \/ b = none \/ m = 0 \/ m' = 0) -> ((Extern.SlicesOverlaps.overlaps #[tS, tS] #[tR]) #[.slice a m c, .slice b m' c']).run P w = .ok (.bool false) w := by
   intro h
   change Sem.run P (α := Value) (do
    let some t := (#[tS, tS] : Array TypeId)[0]? | stuck "slices.overlaps: no parameter types"
    let .slice elem <- underlying t | stuck "slices.overlaps: slice type expected"
    let size <- sizeOf elem
    match (a : Option Addr), (b : Option Addr) with
    | some a, some b =>
     if m = 0 \/ m' = 0 \/ size = 0 then pure (Value.bool false)
     else if a.block != b.block && (<- frozen a) && (<- frozen b) then unsupported .addressObserved
     else do
      if a.block != b.block then do
       noView a; noView b
       if <- mayBeOne a b then return Value.bool ((<- choose (.extern "sameAddr.stringBytes" 2)) == 1)
      pure (Value.bool (a.block == b.block && a.off < b.off + m' * size && b.off < a.off + m * size))
    | _, _ => pure (Value.bool false)) w = _
   cases a with
   | none => simp [run_underlying ht, hsz]
   | some a =>
    cases b with
    | none => simp [run_underlying ht, hsz]
    | some b =>
     have : m = 0 \/ m' = 0 := by simpa using h
     rcases this with rfl | rfl <;> simp [run_underlying ht, hsz]
  by_cases h0 : m = 0 \/ m' = 0
  ·exact triv (.inr (.inr h0))
  ·obtain ⟨ba, a1, a2, a3⟩ := ha.resolve_left (by omega)
   obtain ⟨bb, c1, c2, c3⟩ := hb'.resolve_left (by omega)
   have l0 : (hpE 0 [Ob.row ty sz true xs, Ob.row ty sz true ys]).lookup (.e 0) = some (.row ty sz true xs) := rfl
   have l1 : (hpE 0 [Ob.row ty sz true xs, Ob.row ty sz true ys]).lookup (.e 1) = some (.row ty sz true ys) := rfl
   rcases hW.ob _ _ l0 with ⟨_, z⟩ | ⟨blk, cur, p1, p2, p3, p4, _⟩
   ·rw [z] at a1; cases a1
   rcases hW.ob _ _ l1 with ⟨_, z⟩ | ⟨blk', cur', q1, q2, q3, q4, _⟩
   ·rw [z] at c1; cases c1
   rw [a1] at p1; injection p1 with p1; subst p1
   rw [c1] at q1; injection q1 with q1; subst q1
   have hne : ba.b ≠ bb.b := fun e => by
    have := hW.inj _ _ _ _ ba bb l0 rfl l1 rfl a1 c1 e
    cases this
   subst a2 c2
   have hkb : cur'.size ≠ 0 := by
    rw [q4]
    have hcb : 0 < bb.cap := by
     have : m' ≠ 0 := fun e => h0 (.inr e)
     omega
    exact Nat.pos_iff_ne_zero.1 (Nat.mul_pos hcb hpos)
   exact Go.Lib.run_overlaps_apart w tS tR e ht sz hsz ⟨ba.b, _, none⟩ ⟨bb.b, _, none⟩ m c m' c' hne ty ty cur.size cur'.size (by simp [World.shape?, p3]) (by simp [World.shape?, q3]) hkb (by simp [World.frozen?, p3]) (by simp [World.frozen?, p3])
 have hcall : (callFunc f vs).run P w = .ok (.value (.bool false)) w := by
  rw [run_callFunc_extern hf hn hb (by simpa using h1) he, hrun]; rfl
 unfold e00
 rw [hcall]
 exact ⟨_, H, μ, rfl, ⟨_, rfl, .c _⟩, (Nx.refl H μ _ w).toNj, hW, by simp, fun _ _ _ _ _ => rfl⟩
end Go.Am
end

section
namespace Go.Am
set_option maxRecDepth 100000
attribute [local irreducible] vc vcIs vcI vcOp vcD vcDp vcDR vcT vcAR bp0 aK0 panD neG ne pv J bm0 bl0 bt0 aS0 evK evsK nthK objK boxK rowK bg0 intK strK aggK fnK ifcK aw0 at0 ldK ldaK iaK srcK stK appK appD bv0 pvK br0 aF0 bk0
theorem jo0 (o m o' m' : Nat) (xs ys : List (List V)) :
  J prog fh0 [.arr (.e 0) o m, .arr (.e 1) o' m'] [.row ac0 4 true xs, .row ac0 4 true ys] (· = .ret (.c (.bool false)) [.row ac0 4 true xs, .row ac0 4 true ys]) :=
 sN0 (fn := Go.Proofs.Tryz.f137) (tS := 22) (tR := 4) (e := 31) (sz := 4) Go.Proofs.Tryz.func137 (by kernel_rfl) (by kernel_rfl) (by kernel_rfl) (by kernel_rfl) (by kernel_rfl) (by kernel_rfl) _ _ _ _ _ _ _ (by omega)
theorem iM0 {ty sz : Nat} {own : Bool} {xs ys : List (List V)} (k : Nat) (h : ys.take k = xs) : preO (.row ty sz own xs) (.row ty sz own ys) :=
 preO_row (t := ys.drop k) (by rw [<- h, List.take_append_drop])
theorem del_row {α : Type} {xs js Z Y : List α} {i j n : Nat} (hij : i < j) (hj : j <= xs.length) (hn : n = i + (xs.length - j)) :
  (List.take n (List.take i (xs ++ js) ++ (List.take (xs.length - j) (List.drop j (xs ++ js)) ++ Z)) ++ Y).take n = xs.take i ++ xs.drop j := by
 subst hn
 have e1 : List.take i (xs ++ js) = List.take i xs := List.take_append_of_le_length (by omega)
 have e2 : List.drop j (xs ++ js) = List.drop j xs ++ js := List.drop_append_of_le_length hj
 have e3 : List.take (xs.length - j) (List.drop j xs ++ js) = List.drop j xs := by
  rw [List.take_append_of_le_length (by simp), List.take_of_length_le (by simp)]
 have hlen : (List.take i xs ++ List.drop j xs).length = i + (xs.length - j) := by simp; omega
 rw [e1, e2, e3, <- List.append_assoc, List.take_append_of_le_length (Nat.le_of_eq hlen.symm), List.take_of_length_le (Nat.le_of_eq hlen), List.take_append_of_le_length (Nat.le_of_eq hlen.symm), List.take_of_length_le (Nat.le_of_eq hlen)]
theorem k50 (xs : List (List V)) (i j : Nat) (hij : i < j) (hj : j <= xs.length) (hl : xs.length < 2 ^ 40) :
  J prog a60 [.arr (.e 0) 0 xs.length, vI i, vI j] [.row ac0 4 true xs] (· = .ret (.arr (.e 1) 0 (i + (xs.length - j))) [.gone, .row ac0 4 true (xs.take i ++ xs.drop j)]) := by
 refine J_cap fun c js h1 h2 h3 => ?_
 have hc : (xs ++ js).length = c := by
  rcases h2 with ⟨rfl, rfl⟩ | h2
  ·simp at h1; subst h1; simp at hj; omega
  ·exact h2
 have hlen : (xs ++ js).length = xs.length + js.length := by simp
 generalize hR : xs ++ js = R at *
 refine az0 c20 (by simp) ?_
 simp +contextual (maxSteps := 2000000) (disch := omega) [-Int.not_lt, -Int.not_le, -Nat.not_lt, -Nat.not_le, sx, bK0, hpE]
 refine ⟨fun h => by omega, fun _ => ?_⟩
 refine endR [(6, .arc (.l 999 0) 0 (i + (xs.length - j)) c)] [(.l 999 0, .row ac0 4 true (xs.take i ++ xs.drop j))]
  (.trans (Wk.rens (E := [(6, .arc (.l 999 0) 0 (i + (xs.length - j)) c)]) (.e 0) (.l 999 0) rfl (by simp) (by simp [renF]) (by simp [renF, bw0]))
   (Wk.pre (E := [(6, .arc (.e 0) 0 (i + (xs.length - j)) c)]) (h := [(.e 0, .row ac0 4 true (xs.take i ++ xs.drop j))]) (by simp) ?_)) [.l 999 0] (by simp) ?_
 ·intro p hp
  simp only [List.mem_singleton] at hp; subst hp
  simp
  rw [show ((i : Int) + ((xs.length - j : Nat) : Int)).toNat = i + (xs.length - j) by omega, <- hR]
  exact iM0 _ (del_row hij hj rfl)
 ·simp +contextual (maxSteps := 2000000) (disch := omega) [-Int.not_lt, -Int.not_le, -Nat.not_lt, -Nat.not_le, sx]
theorem tn2 (a b : Nat) : ((a : Int) + (b : Int)).toNat = a + b := by omega
theorem tnm2 (a b : Nat) : (max ((a : Int) + (b : Int)) 0).toNat = a + b := by omega
section
variable {α : Type} {xs js ys Z Z' rep R : List α} {i n1 : Nat}
theorem insA (hR : xs ++ js = R) (hi : i <= xs.length) (hn : n1 = i + ys.length) :
  (List.take n1 (List.take i (List.take i R ++ rep) ++ (ys ++ Z')) ++ (List.take (xs.length - i) (List.drop i R) ++ Z)).take (xs.length + ys.length) = xs.take i ++ (ys ++ xs.drop i) := by
 subst hR hn
 have e1 : List.take i (xs ++ js) = List.take i xs := List.take_append_of_le_length hi
 have e2 : List.drop i (xs ++ js) = List.drop i xs ++ js := List.drop_append_of_le_length hi
 have e3 : List.take (xs.length - i) (List.drop i xs ++ js) = List.drop i xs := by
  rw [List.take_append_of_le_length (by simp), List.take_of_length_le (by simp)]
 have e4 : List.take i (List.take i xs ++ rep) = List.take i xs := by
  rw [List.take_append_of_le_length (by simp; omega), List.take_take, Nat.min_self]
 have e5 : List.take (i + ys.length) (List.take i xs ++ (ys ++ Z')) = List.take i xs ++ ys := by
  rw [<- List.append_assoc, List.take_append_of_le_length (by simp; omega), List.take_of_length_le (by simp; omega)]
 rw [e1, e2, e3, e4, e5, <- List.append_assoc, List.take_append_of_le_length (by simp; omega), List.take_of_length_le (by simp; omega), List.append_assoc]
theorem insB (hR : xs ++ js = R) (hi : i <= xs.length) (hc : xs.length + ys.length <= R.length) (hn : n1 = i + ys.length) :
  (List.take i (List.take n1 R ++ (List.take (xs.length - i) (List.drop i R) ++ Z)) ++ (ys ++ List.drop (i + ys.length) (List.take n1 R ++ (List.take (xs.length - i) (List.drop i R) ++ Z)))).take (xs.length + ys.length) = xs.take i ++ (ys ++ xs.drop i) := by
 subst hn
 have e0 : (List.take (i + ys.length) R).length = i + ys.length := by simp; omega
 have e1 : List.take i (List.take (i + ys.length) R ++ (List.take (xs.length - i) (List.drop i R) ++ Z)) = List.take i xs := by
  rw [List.take_append_of_le_length (by omega), List.take_take, Nat.min_eq_left (by omega), <- hR, List.take_append_of_le_length hi]
 have e2 : List.drop (i + ys.length) (List.take (i + ys.length) R ++ (List.take (xs.length - i) (List.drop i R) ++ Z)) = List.take (xs.length - i) (List.drop i R) ++ Z := by
  rw [List.drop_append_of_le_length (by omega), List.drop_of_length_le (by omega), List.nil_append]
 have e3 : List.take (xs.length - i) (List.drop i R) = List.drop i xs := by
  rw [<- hR, List.drop_append_of_le_length hi, List.take_append_of_le_length (by simp), List.take_of_length_le (by simp)]
 rw [e1, e2, e3, <- List.append_assoc, <- List.append_assoc, List.take_append_of_le_length (by simp; omega), List.take_of_length_le (by simp; omega), List.append_assoc]
theorem insC (hR : xs ++ js = R) : (List.take xs.length R ++ (ys ++ Z)).take (xs.length + ys.length) = xs.take xs.length ++ (ys ++ xs.drop xs.length) := by
 subst hR
 rw [List.take_append_of_le_length (Nat.le_refl _), List.take_of_length_le (Nat.le_refl _), List.drop_of_length_le (Nat.le_refl _), <- List.append_assoc, List.take_append_of_le_length (by simp), List.take_of_length_le (by simp), List.append_nil]
end
theorem k60 (xs ys : List (List V)) (i : Nat) (hi : i <= xs.length) (hl : xs.length < 2 ^ 40) (hy0 : 0 < ys.length) (hy : ys.length < 2 ^ 20) :
  J prog a90 [.arr (.e 0) 0 xs.length, vI i, .arr (.e 1) 0 ys.length] [.row ac0 4 true xs, .row ac0 4 true ys] (· = .ret (.arr (.e 2) 0 (xs.length + ys.length)) [.gone, .row ac0 4 true ys, .row ac0 4 true (xs.take i ++ (ys ++ xs.drop i))]) := by
 refine J_cap fun c js h1 h2 h3 => ?_
 have hlen : (xs ++ js).length = xs.length + js.length := by simp
 have hc : (xs ++ js).length = c \/ (c = 0 /\ js = [] /\ xs.length = 0) := by
  rcases h2 with ⟨rfl, rfl⟩ | h2
  ·exact .inr ⟨rfl, rfl, by omega⟩
  ·exact .inl h2
 have hcl : c <= (xs ++ js).length := by omega
 generalize hR : xs ++ js = R at *
 have hyn : ys ≠ [] := fun e => by subst e; simp at hy0
 refine az0 c30 (by simp) ?_
 simp +contextual (maxSteps := 2000000) (disch := omega) [-Int.not_lt, -Int.not_le, -Nat.not_lt, -Nat.not_le, sx, bL0, hpE, hyn, tn2, tnm2]
 refine ⟨fun hin => ⟨fun hr => ?_, fun hr => ?_⟩, fun hin => ⟨fun hr => ?_, fun hr => ?_⟩⟩
 ·have hin : i = xs.length := by omega
  subst hin
  refine endR [(6, .arc (.l 999 0) 0 (xs.length + ys.length) c)] [(.l 999 0, .row ac0 4 true (xs.take xs.length ++ (ys ++ xs.drop xs.length))), (.e 1, .row ac0 4 true ys)]
   (.trans (Wk.rens (.e 0) (.l 999 0) rfl (by simp) (by simp [renF]) (by simp [renF, bw0]))
    (Wk.pre (E := [(6, .arc (.e 0) 0 (xs.length + ys.length) c)]) (h := [(.e 0, .row ac0 4 true (xs.take xs.length ++ (ys ++ xs.drop xs.length))), (.e 1, .row ac0 4 true ys)]) (by simp) ?_)) [.l 999 0] (by simp) ?_
  ·intro p hp
   simp only [List.mem_cons, List.not_mem_nil, or_false] at hp
   rcases hp with rfl | rfl
   ·simp only [objK, ↓reduceIte]
    exact iM0 _ (insC hR)
   ·simp; exact .inl rfl
  ·simp +contextual (maxSteps := 2000000) (disch := omega) [-Int.not_lt, -Int.not_le, -Nat.not_lt, -Nat.not_le, sx]
 ·have hin : i = xs.length := by omega
  subst hin
  refine endR [(6, .arr (.l 25 0) 0 (xs.length + ys.length))] [(.l 25 0, .row ac0 4 true (xs.take xs.length ++ (ys ++ xs.drop xs.length))), (.e 1, .row ac0 4 true ys)]
    (Wk.pre (by simp) ?_) [.l 25 0] (by simp) ?_
  ·intro p hp
   simp only [List.mem_cons, List.not_mem_nil, or_false] at hp
   rcases hp with rfl | rfl
   ·simp
    have := insC (Z := []) (ys := ys) hR
    simp at this
    exact iM0 (xs.length + ys.length) (by simpa using this)
   ·simp; exact .inl rfl
  ·simp +contextual (maxSteps := 2000000) (disch := omega) [-Int.not_lt, -Int.not_le, -Nat.not_lt, -Nat.not_le, sx]
 ·refine endR [(6, .arr (.l 40 0) 0 (xs.length + ys.length))] [(.l 40 0, .row ac0 4 true (xs.take i ++ (ys ++ xs.drop i))), (.e 1, .row ac0 4 true ys)]
    (Wk.pre (by simp [tn2]) ?_) [.l 40 0] (by simp) ?_
  ·intro p hp
   simp only [List.mem_cons, List.not_mem_nil, or_false] at hp
   rcases hp with rfl | rfl
   ·simp only [objK, ↓reduceIte]
    exact iM0 (xs.length + ys.length) (insA hR hi (tn2 _ _))
   ·simp; exact .inl rfl
  ·simp +contextual (maxSteps := 2000000) (disch := omega) [-Int.not_lt, -Int.not_le, -Nat.not_lt, -Nat.not_le, sx]
 ·refine ad0 [.e 1, .e 0] rfl rfl (by simp) ?_
  simp
  have hpO := jo0 0 ys.length ((i : Int) + (ys.length : Int)).toNat (xs.length + ys.length - ((i : Int) + (ys.length : Int)).toNat) ys R
  try simp [VmS.obs, VmS.obs', ag0] at hpO
  refine ae0 67 hpO (by simp) ?_
  clear hpO
  simp +contextual (maxSteps := 2000000) (disch := omega) [-Int.not_lt, -Int.not_le, -Nat.not_lt, -Nat.not_le, sx, tn2, tnm2]
  refine endR [(6, .arc (.l 999 0) 0 (xs.length + ys.length) c)] [(.l 999 0, .row ac0 4 true (xs.take i ++ (ys ++ xs.drop i))), (.e 1, .row ac0 4 true ys)]
   (.trans (Wk.rens (.e 0) (.l 999 0) rfl (by simp) (by simp [renF]) (by simp [renF, bw0]))
    (Wk.pre (E := [(6, .arc (.e 0) 0 (xs.length + ys.length) c)]) (h := [(.e 0, .row ac0 4 true (xs.take i ++ (ys ++ xs.drop i))), (.e 1, .row ac0 4 true ys)]) (by simp [tn2]) ?_)) [.l 999 0] (by simp) ?_
  ·intro p hp
   simp only [List.mem_cons, List.not_mem_nil, or_false] at hp
   rcases hp with rfl | rfl
   ·simp [-List.append_assoc]
    have e : List.take (xs.length + ys.length - (i + ys.length)) (List.take (xs.length + ys.length - i) (List.drop i R)) = List.take (xs.length - i) (List.drop i R) := by
     rw [List.take_take]; congr 1; omega
    rw [e]
    exact iM0 _ (insB (ys := ys) hR hi (by omega) rfl)
   ·simp; exact .inl rfl
  ·simp +contextual (maxSteps := 2000000) (disch := omega) [-Int.not_lt, -Int.not_le, -Nat.not_lt, -Nat.not_le, sx]
theorem Val.wtL_td (l : List Val) (i : Nat) : Val.wtL (l.take i) + Val.wtL (l.drop i) = Val.wtL l := by
 conv => rhs; rw [<- List.take_append_drop i l]
 rw [Val.dp0]
theorem Val.wtL_set (l : List Val) (i : Nat) (x : Val) : Val.wtL (l.set i x) <= Val.wtL l + x.wt := by
 induction l generalizing i with
 | nil => simp [Val.wtL]
 | cons y l ih =>
  cases i with
  | zero => simp [Val.wtL]; omega
  | succ i => have := ih i; simp [Val.wtL]; omega
theorem del_vals (l : List Val) (i : Nat) (h : i + 2 <= l.length) (hl : l.length < 2 ^ 40) :
  J prog a60 [.arr (.e 0) 0 l.length, vI i, vI ((i : Int) + 2)] [.row ac0 4 true (l.map Val.cells)] (· = .ret (.arr (.e 1) 0 (i + (l.length - (i + 2)))) [.gone, .row ac0 4 true ((l.take i ++ l.drop (i + 2)).map Val.cells)]) := by
 have := k50 (l.map Val.cells) i (i + 2) (by omega) (by simpa using h) (by simpa using hl)
 simpa [List.map_take, List.map_drop] using this
theorem ins_vals (l : List Val) (i : Nat) (a b : Val) (h : i <= l.length) (hl : l.length < 2 ^ 40) :
  J prog a90 [.arr (.e 0) 0 l.length, vI i, .arr (.e 1) 0 2] [.row ac0 4 true (l.map Val.cells), .row ac0 4 true [a.cells, b.cells]]
   (· = .ret (.arr (.e 2) 0 (l.length + 2)) [.gone, .row ac0 4 true [a.cells, b.cells], .row ac0 4 true ((l.take i ++ (a :: b :: l.drop i)).map Val.cells)]) := by
 have := k60 (l.map Val.cells) [a.cells, b.cells] i (by simpa using h) (by simpa using hl) (by simp) (by simp)
 simpa [List.map_take, List.map_drop] using this
def Val.del (v k : Val) : Val × Int :=
 if v.kind = 5 then (if (aD0 k v.list 0).2 then .mk v.kind v.num v.text (v.list.take (aD0 k v.list 0).1 ++ v.list.drop ((aD0 k v.list 0).1 + 2)) else v, 0) else (Val.zero, 40)
theorem jL0 (v k : Val) (hv : v.wt < 2 ^ 40) (hk : k.wt < 2 ^ 40) : Ret prog hD0 [v.V, k.V] (.tup [(v.del k).1.V, vI (v.del k).2]) := by
 have hs := v.gw0 hv
 have hw := v.cB0
 refine af0 qB0 (by simp) ?_
 simp +contextual (maxSteps := 2000000) (disch := omega) [-Int.not_lt, -Int.not_le, -Nat.not_lt, -Nat.not_le, sx, lQ0]
 (repeat' (first | apply And.intro | intro _))
 all_goals first
  | (simp [Val.del, Val.zero, *]; done)
  | skip
 refine ad0 [] rfl rfl (by simp) ?_
 simp
 refine ae0 14 (gx0 v hv) (by simp) ?_
 simp +contextual (maxSteps := 2000000) (disch := omega) [-Int.not_lt, -Int.not_le, -Nat.not_lt, -Nat.not_le, sx]
 refine ab0 ?_; simp; refine aa0 (dR0 v k hv hk) (by simp) ?_
 have hf := (dJ0 k v.list 0).2
 cases hb : (aD0 k v.list 0).2 with
 | false =>
  simp +contextual (maxSteps := 2000000) (disch := omega) [-Int.not_lt, -Int.not_le, -Nat.not_lt, -Nat.not_le, sx, hb]
  simp [Val.del, *]
 | true =>
  have hf := hf hb
  simp +contextual (maxSteps := 2000000) (disch := omega) [-Int.not_lt, -Int.not_le, -Nat.not_lt, -Nat.not_le, sx, hb]
  refine ad0 [.l 14 0] rfl rfl (by simp) ?_
  simp
  have hpO := del_vals v.list (aD0 k v.list 0).1 (by omega) (by omega)
  try simp [VmS.obs, VmS.obs', ag0] at hpO
  refine ae0 27 hpO (by simp) ?_
  clear hpO
  simp +contextual (maxSteps := 2000000) (disch := omega) [-Int.not_lt, -Int.not_le, -Nat.not_lt, -Nat.not_le, sx]
  simp [Val.del, *]
  rw [List.take_of_length_le (by simp; omega), Val.au0]
  simp
theorem fold_ins {k n : Int} {t : ByteArray} {l : List Val} {i : Nat} {a b : Val} : ([.c (.int .i64 k), .c (.int .i64 n), .c (.string t), .lst (List.take i (l.map Val.cells) ++ a.cells :: b.cells :: List.drop i (l.map Val.cells))] : List V) = (Val.mk k n t (l.take i ++ (a :: b :: l.drop i))).cells := by
 rw [<- Val.fold]; simp only [List.map_append, List.map_take, List.map_cons, List.map_drop]
def Val.put (v k x : Val) : Val × Int :=
 if v.kind = 4 /\ k.kind = 1 then (if k.num < 0 \/ (v.list.length : Int) <= k.num then (Val.zero, 52) else bounded (.mk v.kind v.num v.text (v.list.set k.num.toNat x)))
 else if v.kind = 5 then
  (if (aD0 k v.list 0).2 then bounded (.mk v.kind v.num v.text (v.list.set ((aD0 k v.list 0).1 + 1) x))
   else if (v.list.length : Int) >= 128 then (Val.zero, 53) else bounded (.mk v.kind v.num v.text (v.list.take (aD0 k v.list 0).1 ++ (k :: x :: v.list.drop (aD0 k v.list 0).1))))
 else (Val.zero, 40)
theorem oc0 (v k x : Val) (hv : v.wt < 2 ^ 40) (hk : k.wt < 2 ^ 40) (hx : x.wt < 2 ^ 40) : Ret prog hG0 [v.V, k.V, x.V] (.tup [(v.put k x).1.V, vI (v.put k x).2]) := by
 have hs := v.gw0 hv
 have hw := v.cB0
 have hb1 : ∀ kd i, (Val.mk kd v.num v.text (v.list.set i x)).wt < 2 ^ 62 := by
  intro kd i
  have := Val.wtL_set v.list i x
  rw [Val.cB0]; simp; omega
 have hb2 : ∀ kd i, (Val.mk kd v.num v.text (v.list.take i ++ (k :: x :: v.list.drop i))).wt < 2 ^ 62 := by
  intro kd i
  have := Val.wtL_td v.list i
  rw [Val.cB0]; simp [Val.dp0, Val.wtL]; omega
 have hf1 := (dJ0 k v.list 0).1
 have hf2 := (dJ0 k v.list 0).2
 refine af0 qG0 (by simp) ?_
 simp +contextual (maxSteps := 2000000) (disch := omega) [-Int.not_lt, -Int.not_le, -Nat.not_lt, -Nat.not_le, sx, lV0]
 refine ad0 [] rfl rfl (by simp) ?_
 simp
 refine ae0 12 (gx0 v hv) (by simp) ?_
 simp +contextual (maxSteps := 2000000) (disch := omega) [-Int.not_lt, -Int.not_le, -Nat.not_lt, -Nat.not_le, sx]
 (repeat' (first | apply And.intro | intro _))
 all_goals first
  | (simp [Val.put, Val.zero, *]; done)
  | skip
 ·refine al0 ?_; simp; refine aa0 (aW0 x hx) (by simp) ?_
  simp +contextual (maxSteps := 2000000) (disch := omega) [-Int.not_lt, -Int.not_le, -Nat.not_lt, -Nat.not_le, sx]
  refine ab0 ?_; simp; refine aa0 (cF0 (Val.mk 4 v.num v.text (v.list.set k.num.toNat x)) (hb1 _ _)) (by simp [List.map_set]) ?_
  simp +contextual (maxSteps := 2000000) (disch := omega) [-Int.not_lt, -Int.not_le, -Nat.not_lt, -Nat.not_le, sx]
  simp [Val.put, *]
 ·refine ab0 ?_; simp; refine aa0 (dR0 v k hv hk) (by simp) ?_
  cases hb : (aD0 k v.list 0).2 with
  | true =>
   have hf2 := hf2 hb
   simp +contextual (maxSteps := 2000000) (disch := omega) [-Int.not_lt, -Int.not_le, -Nat.not_lt, -Nat.not_le, sx, hb]
   refine al0 ?_; simp; refine aa0 (aW0 x hx) (by simp) ?_
   simp +contextual (maxSteps := 2000000) (disch := omega) [-Int.not_lt, -Int.not_le, -Nat.not_lt, -Nat.not_le, sx]
   refine ab0 ?_; simp; refine aa0 (cF0 (Val.mk 5 v.num v.text (v.list.set ((aD0 k v.list 0).1 + 1) x)) (hb1 _ _)) (by simp [List.map_set]) ?_
   simp +contextual (maxSteps := 2000000) (disch := omega) [-Int.not_lt, -Int.not_le, -Nat.not_lt, -Nat.not_le, sx]
   simp [Val.put, *]
  | false =>
   simp +contextual (maxSteps := 2000000) (disch := omega) [-Int.not_lt, -Int.not_le, -Nat.not_lt, -Nat.not_le, sx, hb]
   refine ⟨fun h => ?_, fun h => ?_⟩
   ·simp [Val.put, Val.zero, *]
   ·refine al0 ?_; simp; refine aa0 (aW0 k hk) (by simp) ?_
    simp +contextual (maxSteps := 2000000) (disch := omega) [-Int.not_lt, -Int.not_le, -Nat.not_lt, -Nat.not_le, sx]
    refine al0 ?_; simp; refine aa0 (aW0 x hx) (by simp) ?_
    simp +contextual (maxSteps := 2000000) (disch := omega) [-Int.not_lt, -Int.not_le, -Nat.not_lt, -Nat.not_le, sx]
    refine ad0 [.l 12 0, .l 59 0] rfl rfl (by simp) ?_
    simp
    have hpO := ins_vals v.list (aD0 k v.list 0).1 k x (by omega) (by omega)
    try simp [VmS.obs, VmS.obs', ag0] at hpO
    refine ae0 60 hpO (by simp) ?_
    clear hpO
    simp +contextual (maxSteps := 2000000) (disch := omega) [-Int.not_lt, -Int.not_le, -Nat.not_lt, -Nat.not_le, sx]
    refine ab0 ?_; simp; refine ⟨by omega, ?_⟩; rw [List.take_of_length_le (by simp; omega)]
    rw [fold_ins]
    refine aa0 (cF0 (Val.mk 5 v.num v.text (v.list.take (aD0 k v.list 0).1 ++ (k :: x :: v.list.drop (aD0 k v.list 0).1))) (hb2 _ _)) (by simp) ?_
    simp +contextual (maxSteps := 2000000) (disch := omega) [-Int.not_lt, -Int.not_le, -Nat.not_lt, -Nat.not_le, sx]
    simp [Val.put, *]
def arith (op a b : Int) : Int × Int :=
 if op = 9 then fitI (a + b) else if op = 10 then fitI (a - b) else if op = 11 then fitI (a * b)
 else if b = 0 then (0, 51) else if op = 13 then (a.tmod b, 0) else if b = -1 /\ a = -9223372036854775808 then (0, 50) else (a.tdiv b, 0)
theorem lH0 : Ret prog bc0 [vI 12, vI (-9223372036854775808), vI (-1)] (.tup [vI 0, vI 50]) := by
 refine af0 bz0 (by simp) ?_
 have hw : IntKind.i64.wrap 9223372036854775808 = -9223372036854775808 := by decide
 simp +contextual (maxSteps := 2000000) (disch := omega) [-Int.not_lt, -Int.not_le, -Nat.not_lt, -Nat.not_le, sx, ar0, hw]
theorem ka0 (op a b : Int) (ho : 9 <= op /\ op <= 13) (a1 : -9223372036854775808 <= a) (a2 : a < 9223372036854775808) (b1 : -9223372036854775808 <= b) (b2 : b < 9223372036854775808) :
  Ret prog bc0 [vI op, vI a, vI b] (.tup [vI (arith op a b).1, vI (arith op a b).2]) := by
 have hop : op = 9 \/ op = 10 \/ op = 11 \/ op = 12 \/ op = 13 := by omega
 rcases hop with rfl | rfl | rfl | rfl | rfl
 ·simpa [arith] using k00 a b a1 a2 b1 b2
 ·simpa [arith] using k40 a b a1 a2 b1 b2
 ·simpa [arith] using k30 a b a1 a2 b1 b2
 ·by_cases hb : b = 0
  ·subst hb; simpa [arith] using fx0 12 a (.inl rfl)
  ·by_cases hov : b = -1 /\ a = -9223372036854775808
   ·obtain ⟨rfl, rfl⟩ := hov; simpa [arith] using lH0
   ·simpa [arith, hb, hov] using k10 a b a1 a2 b1 b2 hb hov
 ·by_cases hb : b = 0
  ·subst hb; simpa [arith] using fx0 13 a (.inr rfl)
  ·simpa [arith, hb] using k20 a b a1 a2 b1 b2 hb
def cmpB (op c : Int) : Bool := if op = 5 then decide (c < 0) else if op = 6 then decide (c <= 0) else if op = 7 then decide (0 < c) else decide (0 <= c)
def Val.bin (op : Int) (a b : Val) : Val × Int :=
 if op = 3 then (Val.bool (a.cmp b == 0), 0) else if op = 4 then (Val.bool (!(a.cmp b == 0)), 0)
 else if a.kind ≠ b.kind \/ (a.kind ≠ 1 /\ a.kind ≠ 3) then (Val.zero, 40)
 else if 5 <= op /\ op <= 8 then (Val.bool (cmpB op (a.cmp b)), 0)
 else if a.kind = 3 /\ op = 9 then (if (a.text.size : Int) + b.text.size > 256 then (Val.zero, 53) else (Val.str (a.text ++ b.text), 0))
 else if a.kind = 3 \/ op < 9 \/ 13 < op then (Val.zero, 40)
 else if (arith op a.num b.num).2 ≠ 0 then (Val.zero, (arith op a.num b.num).2) else (Val.int (arith op a.num b.num).1, 0)
set_option maxHeartbeats 1000000 in
theorem iR0 (op : Int) (a b : Val) (ha : a.wt < 2 ^ 40) (hb : b.wt < 2 ^ 40) (a1 : -9223372036854775808 <= a.num) (a2 : a.num < 9223372036854775808) (b1 : -9223372036854775808 <= b.num) (b2 : b.num < 9223372036854775808) :
  Ret prog fX0 [vI op, a.V, b.V] (.tup [(Val.bin op a b).1.V, vI (Val.bin op a b).2]) := by
 have sa := a.gw0 ha
 have sb := b.gw0 hb
 refine af0 pm0 (by simp) ?_
 by_cases h3 : op = 3
 ·subst h3
  simp +contextual (maxSteps := 2000000) (disch := omega) [-Int.not_lt, -Int.not_le, -Nat.not_lt, -Nat.not_le, sx, bb0]
  refine ab0 ?_; simp; refine aa0 (b60 a b ha hb) (by simp) ?_
  simp +contextual (maxSteps := 2000000) (disch := omega) [-Int.not_lt, -Int.not_le, -Nat.not_lt, -Nat.not_le, sx]
  refine ab0 ?_; simp; refine aa0 (ck0 (a.cmp b == 0)) (by simp) ?_
  simp +contextual (maxSteps := 2000000) (disch := omega) [-Int.not_lt, -Int.not_le, -Nat.not_lt, -Nat.not_le, sx, Val.bin]
 by_cases h4 : op = 4
 ·subst h4
  simp +contextual (maxSteps := 2000000) (disch := omega) [-Int.not_lt, -Int.not_le, -Nat.not_lt, -Nat.not_le, sx, bb0]
  refine ab0 ?_; simp; refine aa0 (b60 a b ha hb) (by simp) ?_
  simp +contextual (maxSteps := 2000000) (disch := omega) [-Int.not_lt, -Int.not_le, -Nat.not_lt, -Nat.not_le, sx]
  refine ab0 ?_; simp; refine aa0 (ck0 (!(a.cmp b == 0))) (by simp) ?_
  simp +contextual (maxSteps := 2000000) (disch := omega) [-Int.not_lt, -Int.not_le, -Nat.not_lt, -Nat.not_le, sx, Val.bin]
 by_cases hk : a.kind = b.kind /\ (a.kind = 1 \/ a.kind = 3)
 rotate_left
 ·have e : Val.bin op a b = (Val.zero, 40) := by
   unfold Val.bin
   rw [if_neg h3, if_neg h4, if_pos]
   omega
  rw [e]
  by_cases hkk : a.kind = b.kind
  ·have h5 : ¬ b.kind = 1 := by omega
   have h6 : ¬ b.kind = 3 := by omega
   simp +contextual (maxSteps := 2000000) (disch := omega) [-Int.not_lt, -Int.not_le, -Nat.not_lt, -Nat.not_le, sx, bb0, h3, h4, hkk, h5, h6, Val.zero]
  ·simp +contextual (maxSteps := 2000000) (disch := omega) [-Int.not_lt, -Int.not_le, -Nat.not_lt, -Nat.not_le, sx, bb0, h3, h4, hkk, Val.zero]
 obtain ⟨hkk, hk⟩ := hk
 by_cases h5 : 5 <= op /\ op <= 8
 ·have hop : op = 5 \/ op = 6 \/ op = 7 \/ op = 8 := by omega
  rcases hk with hk | hk <;> rw [hk] at hkk <;> rcases hop with rfl | rfl | rfl | rfl <;>
   (simp +contextual (maxSteps := 2000000) (disch := omega) [-Int.not_lt, -Int.not_le, -Nat.not_lt, -Nat.not_le, sx, bb0, hk, <- hkk]
    refine ab0 ?_; simp; refine aa0 (b60 a b ha hb) (by simp) ?_
    simp +contextual (maxSteps := 2000000) (disch := omega) [-Int.not_lt, -Int.not_le, -Nat.not_lt, -Nat.not_le, sx]
    refine ab0 ?_; simp; refine aa0 (ck0 _) (by simp) ?_
    simp +contextual (maxSteps := 2000000) (disch := omega) [-Int.not_lt, -Int.not_le, -Nat.not_lt, -Nat.not_le, sx, Val.bin, cmpB, hk, <- hkk])
 by_cases hk3 : a.kind = 3
 ·have hk3' : b.kind = 3 := by omega
  by_cases h9 : op = 9
  ·subst h9
   by_cases hs : (a.text.size : Int) + b.text.size > 256
   ·simp +contextual (maxSteps := 2000000) (disch := omega) [-Int.not_lt, -Int.not_le, -Nat.not_lt, -Nat.not_le, sx, bb0, hk3, hk3', Val.bin, Val.zero, hs]
   ·simp +contextual (maxSteps := 2000000) (disch := omega) [-Int.not_lt, -Int.not_le, -Nat.not_lt, -Nat.not_le, sx, bb0, hk3, hk3', hs]
    refine ab0 ?_; simp; refine aa0 (iW0 (a.text ++ b.text)) (by simp) ?_
    simp +contextual (maxSteps := 2000000) (disch := omega) [-Int.not_lt, -Int.not_le, -Nat.not_lt, -Nat.not_le, sx, Val.bin, hk3, hk3', hs]
  ·have e : Val.bin op a b = (Val.zero, 40) := by
    unfold Val.bin
    rw [if_neg h3, if_neg h4, if_neg (by omega), if_neg h5, if_neg (by omega), if_pos (by omega)]
   rw [e]
   have h56 : ¬ (5 <= op) \/ ¬ (op <= 8) := by omega
   rcases h56 with h56 | h56 <;> simp +contextual (maxSteps := 2000000) (disch := omega) [-Int.not_lt, -Int.not_le, -Nat.not_lt, -Nat.not_le, sx, bb0, h3, h4, hk3, hk3', h9, h56, Val.zero]
 ·have hk1 : a.kind = 1 := by omega
  have hk1' : b.kind = 1 := by omega
  by_cases hlo : op < 9
  ·have e : Val.bin op a b = (Val.zero, 40) := by
    unfold Val.bin
    rw [if_neg h3, if_neg h4, if_neg (by omega), if_neg h5, if_neg (by omega), if_pos (by omega)]
   rw [e]
   have h56 : ¬ (5 <= op) := by omega
   simp +contextual (maxSteps := 2000000) (disch := omega) [-Int.not_lt, -Int.not_le, -Nat.not_lt, -Nat.not_le, sx, bb0, h3, h4, hk1, hk1', hlo, h56, Val.zero]
  ·by_cases hhi : 13 < op
   ·have e : Val.bin op a b = (Val.zero, 40) := by
     unfold Val.bin
     rw [if_neg h3, if_neg h4, if_neg (by omega), if_neg h5, if_neg (by omega), if_pos (by omega)]
    rw [e]
    have h56 : ¬ (op <= 8) := by omega
    simp +contextual (maxSteps := 2000000) (disch := omega) [-Int.not_lt, -Int.not_le, -Nat.not_lt, -Nat.not_le, sx, bb0, h3, h4, hk1, hk1', hlo, hhi, h56, Val.zero]
   ·have e : Val.bin op a b = if (arith op a.num b.num).2 ≠ 0 then (Val.zero, (arith op a.num b.num).2) else (Val.int (arith op a.num b.num).1, 0) := by
     unfold Val.bin
     rw [if_neg h3, if_neg h4, if_neg (by omega), if_neg h5, if_neg (by omega), if_neg (by omega)]
    rw [e]
    have h56 : ¬ (op <= 8) := by omega
    simp +contextual (maxSteps := 2000000) (disch := omega) [-Int.not_lt, -Int.not_le, -Nat.not_lt, -Nat.not_le, sx, bb0, h3, h4, hk1, hk1', hlo, hhi, h56]
    refine ab0 ?_; simp; refine aa0 (ka0 op a.num b.num (by omega) a1 a2 b1 b2) (by simp) ?_
    by_cases hz : (arith op a.num b.num).2 = 0
    ·simp +contextual (maxSteps := 2000000) (disch := omega) [-Int.not_lt, -Int.not_le, -Nat.not_lt, -Nat.not_le, sx, hz]
     refine ab0 ?_; simp; refine aa0 (cy0 (arith op a.num b.num).1) (by simp) ?_
     simp +contextual (maxSteps := 2000000) (disch := omega) [-Int.not_lt, -Int.not_le, -Nat.not_lt, -Nat.not_le, sx, hz]
    ·simp +contextual (maxSteps := 2000000) (disch := omega) [-Int.not_lt, -Int.not_le, -Nat.not_lt, -Nat.not_le, sx, hz, Val.zero]
end Go.Am
end

section
namespace Go.Proofs
open Go.Shelf
def Tryz.rC0 : Go.Shelf.Ren := ⟨fun | 246 => 139 | 283 => 143 | 284 => 144 | 285 => 145 | 286 => 146 | 129 => 151 | 317 => 150 | 318 => 152 | 319 => 153 | 320 => 154 | 337 => 159 | 338 => 160 | n => n, fun | 2 => 2 | 3 => 3 | 9 => 9 | 4 => 4 | 171 => 135 | 0 => 0 | 53 => 136 | 37 => 139 | 5 => 5 | 173 => 140 | 212 => 145 | 51 => 146 | 20 => 20 | 213 => 147 | 46 => 148 | 232 => 154 | 233 => 155 | n => n, fun | 17 => 1 | 18 => 2 | 19 => 3 | n => n⟩
theorem Tryz.lays246 : Go.Proofs.LaysM.n246 Tryz.prog Tryz.rC0 := {
 mixed := by kernel_rfl
 f129 := Tryz.func151.trans (congrArg some (by kernel_rfl))
 f246 := Tryz.func139.trans (congrArg some (by kernel_rfl))
 f283 := Tryz.func143.trans (congrArg some (by kernel_rfl))
 f284 := Tryz.func144.trans (congrArg some (by kernel_rfl))
 f285 := Tryz.func145.trans (congrArg some (by kernel_rfl))
 f286 := Tryz.func146.trans (congrArg some (by kernel_rfl))
 f317 := Tryz.func150.trans (congrArg some (by kernel_rfl))
 f318 := Tryz.func152.trans (congrArg some (by kernel_rfl))
 f319 := Tryz.func153.trans (congrArg some (by kernel_rfl))
 f320 := Tryz.func154.trans (congrArg some (by kernel_rfl))
 f337 := Tryz.func159.trans (congrArg some (by kernel_rfl))
 f338 := Tryz.func160.trans (congrArg some (by kernel_rfl))
 t0 := Tryz.underlying0
 a0 := Tryz.isAgg0
 z0 := Tryz.sizeOf0
 v0 := Tryz.zeroValue0
 t2 := Tryz.underlying2
 a2 := Tryz.isAgg2
 z2 := Tryz.sizeOf2
 v2 := Tryz.zeroValue2
 t3 := Tryz.underlying3
 a3 := Tryz.isAgg3
 z3 := Tryz.sizeOf3
 v3 := Tryz.zeroValue3
 t4 := Tryz.underlying4
 a4 := Tryz.isAgg4
 z4 := Tryz.sizeOf4
 v4 := Tryz.zeroValue4
 t5 := Tryz.underlying5
 a5 := Tryz.isAgg5
 z5 := Tryz.sizeOf5
 v5 := Tryz.zeroValue5
 t9 := Tryz.underlying9
 a9 := Tryz.isAgg9
 z9 := Tryz.sizeOf9
 v9 := Tryz.zeroValue9
 t20 := Tryz.underlying20
 a20 := Tryz.isAgg20
 z20 := Tryz.sizeOf20
 v20 := Tryz.zeroValue20
 t37 := Tryz.underlying139
 a37 := Tryz.isAgg139
 z37 := Tryz.sizeOf139
 v37 := Tryz.zeroValue139
 t46 := Tryz.underlying148
 a46 := Tryz.isAgg148
 z46 := Tryz.sizeOf148
 v46 := Tryz.zeroValue148
 t51 := Tryz.underlying146
 a51 := Tryz.isAgg146
 z51 := Tryz.sizeOf146
 v51 := Tryz.zeroValue146
 t53 := Tryz.underlying136
 a53 := Tryz.isAgg136
 z53 := Tryz.sizeOf136
 v53 := Tryz.zeroValue136
 t171 := Tryz.underlying135
 a171 := Tryz.isAgg135
 z171 := Tryz.sizeOf135
 v171 := Tryz.zeroValue135
 t173 := Tryz.underlying140
 a173 := Tryz.isAgg140
 z173 := Tryz.sizeOf140
 v173 := Tryz.zeroValue140
 t212 := Tryz.underlying145
 a212 := Tryz.isAgg145
 z212 := Tryz.sizeOf145
 v212 := Tryz.zeroValue145
 t213 := Tryz.underlying147
 a213 := Tryz.isAgg147
 z213 := Tryz.sizeOf147
 t232 := Tryz.underlying154
 a232 := Tryz.isAgg154
 z232 := Tryz.sizeOf154
 v232 := Tryz.zeroValue154
 t233 := Tryz.underlying155
 a233 := Tryz.isAgg155
 z233 := Tryz.sizeOf155
 v233 := Tryz.zeroValue155
 g17 := by kernel_rfl
 g18 := by kernel_rfl
 g19 := by kernel_rfl
 i0 := by kernel_rfl
 i2 := by kernel_rfl
 i3 := by kernel_rfl
 i4 := by kernel_rfl
 i5 := by kernel_rfl
 i9 := by kernel_rfl
 i20 := by kernel_rfl
 i37 := by kernel_rfl
 i46 := by kernel_rfl
 i51 := by kernel_rfl
 i53 := by kernel_rfl
 i171 := by kernel_rfl
 i173 := by kernel_rfl
 i212 := by kernel_rfl
 i232 := by kernel_rfl
 i233 := by kernel_rfl
 m17 := by kernel_rfl
 m18 := by kernel_rfl
 m19 := by kernel_rfl }
end Go.Proofs
end

section
namespace Go.Am
variable {P : Program}
theorem J_calls {f : FuncId} {fn : Func} {c : Code} {args : List V} {vs : Array Value} {v : V} {x : Value} (hf : P.funcs[f]? = some fn) (hn : (fn.name == "runtime.NumGoroutine") = false) (hb : fn.body = some c)
  (hargs : ∀ H μ us, RL H μ args us -> us = vs) (hx : ∀ H μ, R H μ v x)
  (hc : ∀ w, (∀ p ∈ rA0, ∃ ty fz, w.heap[p.1]? = some (.cells p.2 ty fz)) -> Calls P f vs w fun e w' => e = .returned x /\ ∃ k os, w' = Sort.grow (w.drewN k) os) : Ret P f args v := by
 intro H μ us w h3 hW
 have := hargs H μ us h3
 subst this
 have hn' : ¬ fn.name = "runtime.NumGoroutine" := by simpa using hn
 have hrun : (callFunc f us).run P w = .ok (.enter f us) w := by simp [callFunc, hf, hn', hb]
 unfold e00
 rw [hrun]
 have hl : ∀ p ∈ rA0, ∃ ty fz, w.heap[p.1]? = some (.cells p.2 ty fz) := fun p hp => hW.imm _ _ (hW.glo p hp)
 refine Calls.mono (hc w hl) ?_
 rintro e w' ⟨rfl, k, os, rfl⟩
 have hheap : ∀ b, b < w.heap.size -> (Sort.grow (w.drewN k) os).heap[b]? = w.heap[b]? := by
  intro b hb
  show (w.heap ++ os)[b]? = w.heap[b]?
  rw [Array.getElem?_append_left hb]
 have hno : ∀ b, ¬ Owns (hpE 0 []) μ b := by rintro b ⟨i, o, blk, h, _⟩; simp [hpE] at h
 refine ⟨_, H, μ, rfl, ⟨x, rfl, hx H μ⟩, ⟨Imm.le_refl H, rfl, rfl, rfl, ?_, fun b hb _ => hheap b hb, fun b h _ => h, fr0⟩, ⟨fun i o hl => by simp [hpE] at hl, fun i j oi oj bi bj hi => by simp [hpE] at hi, fun b cs h => ?_, hW.glo⟩, Nat.le_refl _, fun j o hj => by simp at hj⟩
 ·show w.heap.size <= (w.heap ++ os).size
  simp
 ·obtain ⟨ty, fz, h1⟩ := hW.imm b cs h
  exact ⟨ty, fz, by rw [hheap b (Array.getElem?_eq_some_iff.1 h1).1]; exact h1⟩
theorem s00 {w : World} {name : String} (hg : P.globalNamed name = some 1) (hl : ∀ p ∈ rA0, ∃ ty fz, w.heap[p.1]? = some (.cells p.2 ty fz)) : Lib.TabIs P w name .u64 Lib.pow10Tab := by
 obtain ⟨ty, fz, h⟩ := hl _ (List.mem_singleton.2 rfl)
 unfold Lib.TabIs World.var?
 rw [hg]
 simp only [Option.bind_some]
 rw [h]
 rfl
end Go.Am
end

section
namespace Go.Am
set_option maxRecDepth 100000
attribute [local irreducible] vc vcIs vcI vcOp vcD vcDp vcDR vcT vcAR bp0 aK0 panD neG ne pv J bm0 bl0 bt0 aS0 evK evsK nthK objK boxK rowK bg0 intK strK aggK fnK ifcK aw0 at0 ldK ldaK iaK srcK stK appK appD bv0 pvK br0 aF0 bk0
def qO0 (n : Int) : ByteArray := ⟨(Lib.itoa n).toArray⟩
theorem nR0 (n : Int) (h0 : -9223372036854775808 <= n) (h1 : n < 9223372036854775808) : Ret prog eU0 [vI n, vI 10] (vS (qO0 n)) := by
 obtain ⟨c, hc⟩ : ∃ c, Go.Proofs.Tryz.f139.body = some c := ⟨_, rfl⟩
 exact J_calls (fn := Go.Proofs.Tryz.f139) (c := c) (vs := #[.int .i64 n, .int .i64 10]) (x := .string (qO0 n)) Go.Proofs.Tryz.func139 (by kernel_rfl) hc (fun H μ us h => h.two) (fun H μ => .c _)
  fun w hl => Go.Proofs.Any.internal_strconv_FormatInt_10 Go.Proofs.Tryz.lays246 n h0 (by omega) w (s00 (by kernel_rfl) hl)
theorem kS0 (n : Int) (h0 : -9223372036854775808 <= n) (h1 : n < 9223372036854775808) : Ret prog dy0 [vI n] (vS (qO0 n)) := by
 refine af0 gU0 (by simp) ?_
 simp +contextual (maxSteps := 2000000) (disch := omega) [-Int.not_lt, -Int.not_le, -Nat.not_lt, -Nat.not_le, sx, dh0]
 refine ab0 ?_; simp; refine aa0 (nR0 n h0 h1) (by simp) ?_
 simp +contextual (maxSteps := 2000000) (disch := omega) [-Int.not_lt, -Int.not_le, -Nat.not_lt, -Nat.not_le, sx]
theorem g50 (n : Int) (h0 : -9223372036854775808 <= n) (h1 : n < 9223372036854775808) : Ret prog jv0 [vI n] (vS (qO0 n)) := by
 refine af0 m30 (by simp) ?_
 simp +contextual (maxSteps := 2000000) (disch := omega) [-Int.not_lt, -Int.not_le, -Nat.not_lt, -Nat.not_le, sx, ih0]
 refine ab0 ?_; simp; refine aa0 (kS0 n h0 h1) (by simp) ?_
 simp +contextual (maxSteps := 2000000) (disch := omega) [-Int.not_lt, -Int.not_le, -Nat.not_lt, -Nat.not_le, sx]
def Val.strv (v : Val) : Val × Int := if v.kind ≠ 1 then (Val.zero, 40) else (Val.str (qO0 v.num), 0)
theorem mb0 (v : Val) (h0 : -9223372036854775808 <= v.num) (h1 : v.num < 9223372036854775808) : Ret prog ku0 [v.V] (.tup [v.strv.1.V, vI v.strv.2]) := by
 refine af0 sV0 (by simp) ?_
 by_cases hk : v.kind = 1
 ·simp +contextual (maxSteps := 2000000) (disch := omega) [-Int.not_lt, -Int.not_le, -Nat.not_lt, -Nat.not_le, sx, li0, hk]
  refine ab0 ?_; simp; refine aa0 (g50 v.num h0 h1) (by simp) ?_
  simp +contextual (maxSteps := 2000000) (disch := omega) [-Int.not_lt, -Int.not_le, -Nat.not_lt, -Nat.not_le, sx]
  refine ab0 ?_; simp; refine aa0 (iW0 (qO0 v.num)) (by simp) ?_
  simp +contextual (maxSteps := 2000000) (disch := omega) [-Int.not_lt, -Int.not_le, -Nat.not_lt, -Nat.not_le, sx, Val.strv, hk]
 ·simp +contextual (maxSteps := 2000000) (disch := omega) [-Int.not_lt, -Int.not_le, -Nat.not_lt, -Nat.not_le, sx, li0, Val.strv, Val.zero, hk]
abbrev litS (l : List UInt8) : ByteArray := ⟨⟨l⟩⟩
theorem bM0 (a b : List UInt8) : eqS (litS a) (litS b) = decide (a = b) := by
 unfold eqS
 rw [Bool.eq_iff_iff]
 simp
theorem aX0 (a : List UInt8) : (litS a).size = a.length := rfl
theorem bT0 (a : List UInt8) (i j : Nat) : (litS a).extract i j = litS ((a.drop i).take (j - i)) := by
 apply ByteArray.ext
 simp
abbrev tInt : ByteArray := litS [105, 110, 116]
abbrev tBool : ByteArray := litS [98, 111, 111, 108]
abbrev tText : ByteArray := litS [116, 101, 120, 116]
abbrev tList : ByteArray := litS [91, 105, 110, 116, 93]
abbrev tMap : ByteArray := litS [123, 105, 110, 116, 58, 105, 110, 116, 125]
theorem cL0 (d : Int) (hd : d <= 4) (s : ByteArray) (hs : s = tInt \/ s = tBool \/ s = tText) : Ret prog hC0 [vS s, vI d] (vB true) := by
 refine af0 iC0 (by simp) ?_
 rcases hs with rfl | rfl | rfl <;> simp +contextual (maxSteps := 2000000) (disch := omega) [-Int.not_lt, -Int.not_le, -Nat.not_lt, -Nat.not_le, sx, fL0, bM0]
theorem o20 (s p : List UInt8) (hs : s.length < 2 ^ 40) (hp : p.length < 2 ^ 40) : Ret prog cc0 [vS (litS s), vS (litS p)] (vB (decide (s.take p.length = p))) := by
 refine af0 dM0 (by simp) ?_
 simp +contextual (maxSteps := 2000000) (disch := omega) [-Int.not_lt, -Int.not_le, -Nat.not_lt, -Nat.not_le, sx, bZ0, aX0, bT0, bM0]
 intro h e
 apply h
 rw [<- e]
 simp
 omega
theorem nQ0 (s p : List UInt8) (hs : s.length < 2 ^ 40) (hp : p.length < 2 ^ 40) (r : List UInt8) (b : Bool) (hb : b = decide (s.take p.length = p))
  (hr : r = if b then s.drop p.length else s) : Ret prog cb0 [vS (litS s), vS (litS p)] (.tup [vS (litS r), vB b]) := by
 refine af0 dL0 (by simp) ?_
 simp +contextual (maxSteps := 2000000) (disch := omega) [-Int.not_lt, -Int.not_le, -Nat.not_lt, -Nat.not_le, sx, bY0]
 refine ab0 ?_; simp; refine aa0 (o20 s p hs hp) (by simp) ?_
 rw [<- hb]
 cases b
 ·simp +contextual (maxSteps := 2000000) (disch := omega) [-Int.not_lt, -Int.not_le, -Nat.not_lt, -Nat.not_le, sx, hr]
 ·have hl : p.length <= s.length := by
   have := of_decide_eq_true hb.symm
   have h2 := congrArg List.length this
   simp at h2
   omega
  simp +contextual (maxSteps := 2000000) (disch := omega) [-Int.not_lt, -Int.not_le, -Nat.not_lt, -Nat.not_le, sx, hr, aX0, bT0]
  apply List.take_of_length_le
  simp
theorem g70 (s p : List UInt8) (hs : s.length < 2 ^ 40) (hp : p.length < 2 ^ 40) (r : List UInt8) (b : Bool) (hb : b = decide (s.take p.length = p))
  (hr : r = if b then s.drop p.length else s) : Ret prog fi0 [vS (litS s), vS (litS p)] (.tup [vS (litS r), vB b]) := by
 refine af0 jm0 (by simp) ?_
 simp +contextual (maxSteps := 2000000) (disch := omega) [-Int.not_lt, -Int.not_le, -Nat.not_lt, -Nat.not_le, sx, eM0]
 refine ab0 ?_; simp; refine aa0 (nQ0 s p hs hp r b hb hr) (by simp) ?_
 simp +contextual (maxSteps := 2000000) (disch := omega) [-Int.not_lt, -Int.not_le, -Nat.not_lt, -Nat.not_le, sx]
theorem oa0 (d : Int) (h0 : 0 <= d) (hd : d < 4) : Ret prog hC0 [vS tList, vI d] (vB true) := by
 refine af0 iC0 (by simp) ?_
 simp +contextual (maxSteps := 2000000) (disch := omega) [-Int.not_lt, -Int.not_le, -Nat.not_lt, -Nat.not_le, sx, fL0, bM0, aX0, bT0]
 refine ab0 ?_; simp; refine aa0 (g70 [91, 105, 110, 116] [91] (by decide) (by decide) [105, 110, 116] true (by decide) (by decide)) (by simp) ?_
 simp +contextual (maxSteps := 2000000) (disch := omega) [-Int.not_lt, -Int.not_le, -Nat.not_lt, -Nat.not_le, sx, aX0]
 refine ab0 ?_; simp; refine aa0 (cL0 (d + 1) (by omega) tInt (.inl rfl)) (by simp) ?_
 simp +contextual (maxSteps := 2000000) (disch := omega) [-Int.not_lt, -Int.not_le, -Nat.not_lt, -Nat.not_le, sx]
theorem pP0 (d : Int) (h0 : 0 <= d) (hd : d < 4) : Ret prog hC0 [vS tMap, vI d] (vB true) := by
 refine af0 iC0 (by simp) ?_
 simp +contextual (maxSteps := 2000000) (disch := omega) [-Int.not_lt, -Int.not_le, -Nat.not_lt, -Nat.not_le, sx, fL0, bM0, aX0, bT0]
 refine ab0 ?_; simp; refine aa0 (g70 [123, 105, 110, 116, 58, 105, 110, 116] [91] (by decide) (by decide) [123, 105, 110, 116, 58, 105, 110, 116] false (by decide) (by decide)) (by simp) ?_
 simp +contextual (maxSteps := 2000000) (disch := omega) [-Int.not_lt, -Int.not_le, -Nat.not_lt, -Nat.not_le, sx, aX0]
 refine aA0 0 (fun _ => [(49, vI 0), (48, vI 2), (47, .arr (.l 47 0) 0 2), (0, vS tMap), (1, vI d)]) (fun _ => [(.l 47 0, .row 9 1 true [[vS (litS [123, 105, 110, 116, 58])], [vS (litS [123, 116, 101, 120, 116, 58])]])]) (Wk.subs (by simp) (by simp)) ?_
 intro i hi
 simp +contextual (maxSteps := 2000000) (disch := omega) [-Int.not_lt, -Int.not_le, -Nat.not_lt, -Nat.not_le, sx, aX0, bT0]
 refine cR0 rfl ?_
 simp +contextual (maxSteps := 2000000) (disch := omega) [-Int.not_lt, -Int.not_le, -Nat.not_lt, -Nat.not_le, sx, aX0, bT0]
 refine ab0 ?_; simp; refine aa0 (g70 [123, 105, 110, 116, 58, 105, 110, 116] [123, 105, 110, 116, 58] (by decide) (by decide) [105, 110, 116] true (by decide) (by decide)) (by simp) ?_
 simp +contextual (maxSteps := 2000000) (disch := omega) [-Int.not_lt, -Int.not_le, -Nat.not_lt, -Nat.not_le, sx, aX0]
 refine ab0 ?_; simp; refine aa0 (cL0 (d + 1) (by omega) tInt (.inl rfl)) (by simp) ?_
 simp +contextual (maxSteps := 2000000) (disch := omega) [-Int.not_lt, -Int.not_le, -Nat.not_lt, -Nat.not_le, sx]
def tyK : List (List UInt8) := [[105, 110, 116], [98, 111, 111, 108], [116, 101, 120, 116], [91, 105, 110, 116, 93], [123, 105, 110, 116, 58, 105, 110, 116, 125]]
theorem eY0 (t : List UInt8) (h : t ∈ tyK) : Ret prog mP0 [vS (litS t)] (vB true) := by
 refine af0 qA0 (by simp) ?_
 simp +contextual (maxSteps := 2000000) (disch := omega) [-Int.not_lt, -Int.not_le, -Nat.not_lt, -Nat.not_le, sx, lP0]
 simp [tyK] at h
 rcases h with rfl | rfl | rfl | rfl | rfl
 ·refine ab0 ?_; simp; refine aa0 (cL0 1 (by omega) tInt (.inl rfl)) (by simp) ?_
  simp +contextual (maxSteps := 2000000) (disch := omega) [-Int.not_lt, -Int.not_le, -Nat.not_lt, -Nat.not_le, sx]
 ·refine ab0 ?_; simp; refine aa0 (cL0 1 (by omega) tBool (.inr (.inl rfl))) (by simp) ?_
  simp +contextual (maxSteps := 2000000) (disch := omega) [-Int.not_lt, -Int.not_le, -Nat.not_lt, -Nat.not_le, sx]
 ·refine ab0 ?_; simp; refine aa0 (cL0 1 (by omega) tText (.inr (.inr rfl))) (by simp) ?_
  simp +contextual (maxSteps := 2000000) (disch := omega) [-Int.not_lt, -Int.not_le, -Nat.not_lt, -Nat.not_le, sx]
 ·refine ab0 ?_; simp; refine aa0 (oa0 1 (by omega) (by omega)) (by simp) ?_
  simp +contextual (maxSteps := 2000000) (disch := omega) [-Int.not_lt, -Int.not_le, -Nat.not_lt, -Nat.not_le, sx]
 ·refine ab0 ?_; simp; refine aa0 (pP0 1 (by omega) (by omega)) (by simp) ?_
  simp +contextual (maxSteps := 2000000) (disch := omega) [-Int.not_lt, -Int.not_le, -Nat.not_lt, -Nat.not_le, sx]
theorem nv0 : Ret prog ip0 [vS tList] (.tup [vS tInt, vB true]) := by
 refine af0 kL0 (by simp) ?_
 simp +contextual (maxSteps := 2000000) (disch := omega) [-Int.not_lt, -Int.not_le, -Nat.not_lt, -Nat.not_le, sx, hg0]
 refine ab0 ?_; simp; refine aa0 (eY0 [91, 105, 110, 116, 93] (by simp [tyK])) (by simp) ?_
 simp +contextual (maxSteps := 2000000) (disch := omega) [-Int.not_lt, -Int.not_le, -Nat.not_lt, -Nat.not_le, sx, aX0, bT0]
 exact ⟨_, rfl, rfl⟩
theorem ob0 : Ret prog ip0 [vS tMap] (.tup [vS ⟨⟨[]⟩⟩, vB false]) := by
 refine af0 kL0 (by simp) ?_
 simp +contextual (maxSteps := 2000000) (disch := omega) [-Int.not_lt, -Int.not_le, -Nat.not_lt, -Nat.not_le, sx, hg0]
 refine ab0 ?_; simp; refine aa0 (eY0 [123, 105, 110, 116, 58, 105, 110, 116, 125] (by simp [tyK])) (by simp) ?_
 simp +contextual (maxSteps := 2000000) (disch := omega) [-Int.not_lt, -Int.not_le, -Nat.not_lt, -Nat.not_le, sx, aX0, bT0]
 exact ⟨_, rfl, by decide⟩
theorem jQ0 : Ret prog dq0 [vS (litS [105, 110, 116, 58, 105, 110, 116]), .c (.int .u8 58)] (vI 3) :=
 J_ext (fn := Go.Proofs.Tryz.f161) Go.Proofs.Tryz.func161 (by kernel_rfl) (by kernel_rfl) (by kernel_rfl) (e := Extern.BytealgIndexByte.indexByte) (by kernel_rfl) (fun H μ us h => h.two) (fun w => by rw [Lib.run_indexByteString]; rfl) (fun H μ => .c _)
theorem o30 : Ret prog ce0 [vS (litS [105, 110, 116, 58, 105, 110, 116]), .c (.int .u8 58)] (vI 3) := by
 refine af0 dN0 (by simp) ?_
 simp +contextual (maxSteps := 2000000) (disch := omega) [-Int.not_lt, -Int.not_le, -Nat.not_lt, -Nat.not_le, sx, b00]
 refine ab0 ?_; simp; refine aa0 (jQ0) (by simp) ?_
 simp +contextual (maxSteps := 2000000) (disch := omega) [-Int.not_lt, -Int.not_le, -Nat.not_lt, -Nat.not_le, sx]
theorem Index_map : Ret prog cD0 [vS (litS [105, 110, 116, 58, 105, 110, 116]), vS (litS [58])] (vI 3) := by
 refine af0 eD0 (by simp) ?_
 simp +contextual (maxSteps := 2000000) (disch := omega) [-Int.not_lt, -Int.not_le, -Nat.not_lt, -Nat.not_le, sx, cs0, aX0, bM0]
 refine ⟨58, rfl, ?_⟩
 simp +contextual (maxSteps := 2000000) (disch := omega) [-Int.not_lt, -Int.not_le, -Nat.not_lt, -Nat.not_le, sx]
 refine ab0 ?_; simp; refine aa0 (o30) (by simp) ?_
 simp +contextual (maxSteps := 2000000) (disch := omega) [-Int.not_lt, -Int.not_le, -Nat.not_lt, -Nat.not_le, sx]
theorem Cut1_map : Ret prog cX0 [vS (litS [105, 110, 116, 58, 105, 110, 116]), vS (litS [58])] (.tup [vS tInt, vS tInt, vB true]) := by
 refine af0 fl0 (by simp) ?_
 simp +contextual (maxSteps := 2000000) (disch := omega) [-Int.not_lt, -Int.not_le, -Nat.not_lt, -Nat.not_le, sx, cH0]
 refine ab0 ?_; simp; refine aa0 (Index_map) (by simp) ?_
 simp +contextual (maxSteps := 2000000) (disch := omega) [-Int.not_lt, -Int.not_le, -Nat.not_lt, -Nat.not_le, sx, aX0, bT0]
theorem Cut_map : Ret prog kv0 [vS (litS [105, 110, 116, 58, 105, 110, 116]), vS (litS [58])] (.tup [vS tInt, vS tInt, vB true]) := by
 refine af0 n30 (by simp) ?_
 simp +contextual (maxSteps := 2000000) (disch := omega) [-Int.not_lt, -Int.not_le, -Nat.not_lt, -Nat.not_le, sx, js0]
 refine ab0 ?_; simp; refine aa0 (Cut1_map) (by simp) ?_
 simp +contextual (maxSteps := 2000000) (disch := omega) [-Int.not_lt, -Int.not_le, -Nat.not_lt, -Nat.not_le, sx]
theorem pV0 : Ret prog mR0 [vS tMap] (.tup [vS tInt, vS tInt, vB true]) := by
 refine af0 qF0 (by simp) ?_
 simp +contextual (maxSteps := 2000000) (disch := omega) [-Int.not_lt, -Int.not_le, -Nat.not_lt, -Nat.not_le, sx, lU0]
 refine ab0 ?_; simp; refine aa0 (eY0 [123, 105, 110, 116, 58, 105, 110, 116, 125] (by simp [tyK])) (by simp) ?_
 simp +contextual (maxSteps := 2000000) (disch := omega) [-Int.not_lt, -Int.not_le, -Nat.not_lt, -Nat.not_le, sx, aX0, bT0]
 refine ⟨123, rfl, ?_⟩
 simp +contextual (maxSteps := 2000000) (disch := omega) [-Int.not_lt, -Int.not_le, -Nat.not_lt, -Nat.not_le, sx]
 refine ab0 ?_; simp; refine aa0 (Cut_map) (by simp) ?_
 simp +contextual (maxSteps := 2000000) (disch := omega) [-Int.not_lt, -Int.not_le, -Nat.not_lt, -Nat.not_le, sx]
theorem nS0 (g : Nat) (s : ByteArray) :
  J prog aV0 [.lst [], .fn g [.bp (.e 0) 0]] [.box [vS s]] (· = .ret (vI (-1)) [.box [vS s]]) := by
 refine az0 bA0 (by simp) ?_
 simp +contextual (maxSteps := 2000000) (disch := omega) [-Int.not_lt, -Int.not_le, -Nat.not_lt, -Nat.not_le, sx, aT0, hpE]
 refine aA0 0 (fun _ => [(8, vI 0), (7, vI 0)]) (fun _ => [(.e 0, .box [vS s])]) (Wk.subs (by simp) (by simp)) ?_
 intro i hi
 simp +contextual (maxSteps := 2000000) (disch := omega) [-Int.not_lt, -Int.not_le, -Nat.not_lt, -Nat.not_le, sx]
 refine endR [(4, vI (-1))] [(.e 0, .box [vS s])] (Wk.subs (by simp) (by simp)) [] (by simp) ?_
 simp +contextual (maxSteps := 2000000) (disch := omega) [-Int.not_lt, -Int.not_le, -Nat.not_lt, -Nat.not_le, sx]
theorem lg0 (g : Nat) (s : ByteArray) :
  J prog aP0 [.lst [], .fn g [.bp (.e 0) 0]] [.box [vS s]] (· = .ret (vB false) [.box [vS s]]) := by
 refine az0 bo0 (by simp) ?_
 simp +contextual (maxSteps := 2000000) (disch := omega) [-Int.not_lt, -Int.not_le, -Nat.not_lt, -Nat.not_le, sx, aO0, hpE]
 refine ad0 [.e 0] rfl rfl (by simp) ?_
 simp
 have hpO := nS0 g s
 try simp [VmS.obs, VmS.obs', ag0] at hpO
 refine ae0 7 hpO (by simp) ?_
 clear hpO
 simp +contextual (maxSteps := 2000000) (disch := omega) [-Int.not_lt, -Int.not_le, -Nat.not_lt, -Nat.not_le, sx]
 refine endR [(4, vB false)] [(.e 0, .box [vS s])] (Wk.subs (by simp) (by simp)) [] (by simp) ?_
 simp +contextual (maxSteps := 2000000) (disch := omega) [-Int.not_lt, -Int.not_le, -Nat.not_lt, -Nat.not_le, sx]
def Val.fitK (v : Val) (t : List UInt8) : Bool :=
 if t = [105, 110, 116] then decide (v.kind = 1) && decide (v.text = litS [])
 else if t = [98, 111, 111, 108] then decide (v.kind = 2) && (decide (v.num = 0) || decide (v.num = 1)) && decide (v.text = litS [])
 else if v.num ≠ 0 then false
 else if t = [116, 101, 120, 116] then decide (v.kind = 3) && decide (v.text.size <= 256)
 else if t = [91, 105, 110, 116, 93] then decide (v.kind = 4) && decide (v.text = litS [])
 else decide (v.kind = 5) && decide (v.text = litS [])
theorem rg0 (v : Val) (t : List UInt8) (ht : t ∈ tyK) (hl : v.list = []) (hs : v.text.size < 2 ^ 40) : Ret prog l60 [v.V, vS (litS t)] (vB (v.fitK t)) := by
 refine af0 ps0 (by simp) ?_
 simp [tyK] at ht
 rcases ht with rfl | rfl | rfl | rfl | rfl
 ·simp +contextual (maxSteps := 2000000) (disch := omega) [-Int.not_lt, -Int.not_le, -Nat.not_lt, -Nat.not_le, sx, cO0, bM0, hl, Val.fitK]
 ·simp +contextual (maxSteps := 2000000) (disch := omega) [-Int.not_lt, -Int.not_le, -Nat.not_lt, -Nat.not_le, sx, cO0, bM0, hl, Val.fitK]
 ·simp +contextual (maxSteps := 2000000) (disch := omega) [-Int.not_lt, -Int.not_le, -Nat.not_lt, -Nat.not_le, sx, cO0, bM0, hl, Val.fitK]
  (repeat' (first | apply And.intro | intro _))
  all_goals omega
 ·simp +contextual (maxSteps := 2000000) (disch := omega) [-Int.not_lt, -Int.not_le, -Nat.not_lt, -Nat.not_le, sx, cO0, bM0, hl]
  refine ⟨fun h => by simp [Val.fitK, h], fun hn => ⟨fun he => ?_, fun he => by simp [Val.fitK, he]⟩⟩
  refine ab0 ?_; simp; refine aa0 (nv0) (by simp) ?_
  simp +contextual (maxSteps := 2000000) (disch := omega) [-Int.not_lt, -Int.not_le, -Nat.not_lt, -Nat.not_le, sx, hl]
  refine ⟨fun hk => ?_, fun hk => by simp [Val.fitK, hk]⟩
  refine ad0 [.l 5 0] rfl rfl (by simp) ?_
  simp
  have hpO := lg0 123 tInt
  try simp [VmS.obs, VmS.obs', ag0] at hpO
  refine ae0 105 hpO (by simp) ?_
  clear hpO
  simp +contextual (maxSteps := 2000000) (disch := omega) [-Int.not_lt, -Int.not_le, -Nat.not_lt, -Nat.not_le, sx, hl, Val.fitK, *]
 ·simp +contextual (maxSteps := 2000000) (disch := omega) [-Int.not_lt, -Int.not_le, -Nat.not_lt, -Nat.not_le, sx, cO0, bM0, hl]
  refine ⟨fun h => by simp [Val.fitK, h], fun hn => ⟨fun he => ?_, fun he => by simp [Val.fitK, he]⟩⟩
  refine ab0 ?_; simp; refine aa0 (ob0) (by simp) ?_
  simp +contextual (maxSteps := 2000000) (disch := omega) [-Int.not_lt, -Int.not_le, -Nat.not_lt, -Nat.not_le, sx, hl]
  refine ab0 ?_; simp; refine aa0 (pV0) (by simp) ?_
  simp +contextual (maxSteps := 2000000) (disch := omega) [-Int.not_lt, -Int.not_le, -Nat.not_lt, -Nat.not_le, sx, hl]
  refine ⟨fun hk => by simp [Val.fitK, hk], fun hk => ?_⟩
  refine aA0 0 (fun _ => [(10, vI 0), (2, .bp (.l 2 0) 0)]) (fun _ => [(.l 2 0, .box v.cells)]) (Wk.subs (by simp) (by simp)) ?_
  intro i hi
  simp +contextual (maxSteps := 2000000) (disch := omega) [-Int.not_lt, -Int.not_le, -Nat.not_lt, -Nat.not_le, sx, hl, Val.fitK, *]
theorem rf0 (v : Val) (t : List UInt8) (ht : t ∈ tyK) (hl : v.list = []) (hs : v.wt < 2 ^ 40) : Ret prog l30 [v.V, vS (litS t)] (vB (decide (v.wt <= 16384) && v.fitK t)) := by
 have hs2 : v.text.size < 2 ^ 40 := by have := v.cB0; omega
 refine af0 po0 (by simp) ?_
 simp +contextual (maxSteps := 2000000) (disch := omega) [-Int.not_lt, -Int.not_le, -Nat.not_lt, -Nat.not_le, sx, ki0]
 refine ab0 ?_; simp; refine aa0 (eY0 t ht) (by simp) ?_
 simp +contextual (maxSteps := 2000000) (disch := omega) [-Int.not_lt, -Int.not_le, -Nat.not_lt, -Nat.not_le, sx]
 refine ab0 ?_; simp; refine aa0 (ej0 v (by omega)) (by simp) ?_
 simp +contextual (maxSteps := 2000000) (disch := omega) [-Int.not_lt, -Int.not_le, -Nat.not_lt, -Nat.not_le, sx]
 by_cases hw : (v.wt : Int) <= 16384
 ·simp +contextual (maxSteps := 2000000) (disch := omega) [-Int.not_lt, -Int.not_le, -Nat.not_lt, -Nat.not_le, sx, hw]
  refine ab0 ?_; simp; refine aa0 (rg0 v t ht hl hs2) (by simp) ?_
  simp +contextual (maxSteps := 2000000) (disch := omega) [-Int.not_lt, -Int.not_le, -Nat.not_lt, -Nat.not_le, sx]
 ·simp +contextual (maxSteps := 2000000) (disch := omega) [-Int.not_lt, -Int.not_le, -Nat.not_lt, -Nat.not_le, sx, hw]
def Val.tyc (v : Val) : List UInt8 := if v.list = [] /\ v.wt <= 16384 then (tyK.find? v.fitK).getD [] else []
def TyI (v : Val) (i : Nat) : Prop := i <= 5 /\ ∀ (j : Nat) (h : j < tyK.length), j < i -> v.list = [] -> v.wt <= 16384 -> v.fitK tyK[j] = false
theorem TyI.at {v : Val} {i : Nat} (h : TyI v i) (hi : i < tyK.length) (h1 : v.list = []) (h2 : v.wt <= 16384) (h3 : v.fitK tyK[i] = true) : v.tyc = tyK[i] := by
 have : tyK.find? v.fitK = some tyK[i] := List.find?_eq_some_iff_getElem.2 ⟨h3, i, hi, rfl, fun j hj => by simp [h.2 j (by omega) hj h1 h2]⟩
 simp [Val.tyc, h1, h2, this]
theorem TyI.next {v : Val} {i : Nat} (h : TyI v i) (hi : i < tyK.length) (h3 : v.list = [] -> v.wt <= 16384 -> v.fitK tyK[i] = false) : TyI v (i + 1) :=
 ⟨hi, fun j h1 h2 ha hb => by
  by_cases e : j = i
  ·subst e; exact h3 ha hb
  ·exact h.2 j h1 (by omega) ha hb⟩
theorem TyI.none {v : Val} {i : Nat} (h : TyI v i) (hi : ¬ i < 5) : v.tyc = [] := by
 unfold Val.tyc
 split
 ·rename_i hc
  have : tyK.find? v.fitK = Option.none := by
   rw [List.find?_eq_none]
   intro t ht
   obtain ⟨j, hj, rfl⟩ := List.getElem_of_mem ht
   have : j < 5 := hj
   simp [h.2 j hj (by omega) hc.1 hc.2]
  simp [this]
 ·rfl
theorem nZ0 (v : Val) (hs : v.wt < 2 ^ 40) : Ret prog mO0 [v.V] (vS (litS v.tyc)) := by
 refine af0 qz0 (by simp) ?_
 simp +contextual (maxSteps := 2000000) (disch := omega) [-Int.not_lt, -Int.not_le, -Nat.not_lt, -Nat.not_le, sx, lO0]
 refine ap0 (fun i : Nat => 5 - i) (fun i => [(7, vI i), (6, vI 5), (5, .arr (.l 5 0) 0 5), (1, .bp (.l 1 0) 0)]) (fun _ => [(.l 5 0, .row 9 1 true (tyK.map fun t => [vS (litS t)])), (.l 1 0, .box v.cells)])
  (TyI v) 0 ⟨by simp, by simp⟩ (Wk.subs (by simp) (by simp [tyK])) ?_
 rintro i hI
 have hi := hI.1
 simp +contextual (maxSteps := 2000000) (disch := omega) [-Int.not_lt, -Int.not_le, -Nat.not_lt, -Nat.not_le, sx]
 refine ⟨fun hlt => ?_, fun hge => hI.none (by omega)⟩
 have hi5 : i < tyK.length := by simp [tyK]; omega
 refine qu0 hi5 ?_
 simp +contextual (maxSteps := 2000000) (disch := omega) [-Int.not_lt, -Int.not_le, -Nat.not_lt, -Nat.not_le, sx]
 refine ⟨fun he => ?_, fun he => ?_⟩
 ·refine ab0 ?_; simp; refine aa0 (rf0 v tyK[i] (List.getElem_mem hi5) he hs) (by simp) ?_
  simp +contextual (maxSteps := 2000000) (disch := omega) [-Int.not_lt, -Int.not_le, -Nat.not_lt, -Nat.not_le, sx]
  refine ⟨fun h1 h2 => (hI.at hi5 he h1 h2).symm, fun h => ?_⟩
  exact .of (i + 1) (hI.next hi5 fun _ => h) (by omega) (Wk.subs (by simp) (by simp))
 ·exact .of (i + 1) (hI.next hi5 fun h => absurd h he) (by omega) (Wk.subs (by simp) (by simp))
theorem mK0 (m : Mdl) (states : Int) (n : Nat) (i : Ins) (hn : n < m.funcs.length) : Ret prog l00 [m.V, vI states, vI n, i.V] (vB (m.fn0 states n m.funcs[n] i)) := by
 refine af0 pl0 (by simp) ?_
 simp +contextual (maxSteps := 2000000) (disch := omega) [-Int.not_lt, -Int.not_le, -Nat.not_lt, -Nat.not_le, sx, kg0, isKey, hN0]
 (repeat' (first | apply And.intro | intro _))
 all_goals first
  | (simp [Mdl.fn0, Mdl.most, *]; done)
  | (simp [Mdl.fn0, Mdl.most, *]; omega)
  | (rw [Bool.eq_iff_iff]; simp [Mdl.fn0, Mdl.most, *]; done)
  | (rw [Bool.eq_iff_iff]; simp [Mdl.fn0, Mdl.most, *]; omega)
  | skip
end Go.Am
end

section
namespace Go.Am
structure Gr where
 len : Nat
 pops : Nat -> Int
 ax0 : Nat -> Int
 cap : Int
 aN0 : Nat -> List Int
namespace Gr
variable {g : Gr}
def out (g : Gr) (x : Int) (p : Nat) : Int := x - g.pops p + g.ax0 p
def okAt (g : Gr) (G : Nat -> Int) (p : Nat) : Prop := 0 <= G p - g.pops p /\ g.out (G p) p <= g.cap /\ ∀ q ∈ g.aN0 p, q.toNat < g.len /\ G q.toNat = g.out (G p) p
def good (g : Gr) (G : Nat -> Int) : Prop := G 0 = 0 /\ ∀ p, p < g.len -> 0 <= G p -> g.okAt G p
def hOk (g : Gr) : Prop := ∃ G, g.good G
open Classical in
noncomputable def hB (g : Gr) : Bool := decide g.hOk
def kn (known : List Int) (p : Nat) : Int := known.getD p (-1)
theorem qQ0 {known : List Int} {p : Nat} (h : p < known.length) : kn known p = known[p] := by simp [kn, h]
theorem kn_set {known : List Int} {q : Nat} {x : Int} (h : q < known.length) (p : Nat) : kn (known.set q x) p = if p = q then x else kn known p := by
 unfold kn
 by_cases e : p = q
 ·subst e; simp [h]
 ·have : q ≠ p := fun h => e h.symm
  simp [List.getD, List.getElem?_set, this, e]
def unk (known : List Int) : Nat := known.countP (· < 0)
theorem pS0 : ∀ {known : List Int} {q : Nat} {x : Int} (h : q < known.length), known[q] < 0 -> 0 <= x -> unk (known.set q x) + 1 = unk known
 | y :: l, 0, x, h, h1, h2 => by
  have h1 : y < 0 := h1
  have : ¬ x < 0 := by omega
  simp [unk, List.countP_cons, h1, this]
 | y :: l, q + 1, x, h, h1, h2 => by
  have ih := pS0 (known := l) (q := q) (x := x) (by simpa using h) (by simpa using h1) h2
  simp only [unk, List.set_cons_succ, List.countP_cons] at ih ⊢
  omega
structure HI (g : Gr) (known wk : List Int) : Prop where
 len : known.length = g.len
 zero : kn known 0 = 0
 low : ∀ p, p < g.len -> -1 <= kn known p
 cap : ∀ p, p < g.len -> kn known p <= g.cap
 work : ∀ x ∈ wk, 0 <= x /\ x.toNat < g.len /\ 0 <= kn known x.toNat
 done : ∀ p, p < g.len -> 0 <= kn known p -> (p : Int) ∈ wk \/ g.okAt (kn known) p
 least : ∀ G, g.good G -> ∀ p, p < g.len -> 0 <= kn known p -> G p = kn known p
structure HJ (g : Gr) (at_ : Nat) (j : Nat) (known wk : List Int) : Prop where
 len : known.length = g.len
 zero : kn known 0 = 0
 low : ∀ p, p < g.len -> -1 <= kn known p
 cap : ∀ p, p < g.len -> kn known p <= g.cap
 work : ∀ x ∈ wk, 0 <= x /\ x.toNat < g.len /\ 0 <= kn known x.toNat
 here : at_ < g.len
 got : 0 <= kn known at_
 en : 0 <= kn known at_ - g.pops at_
 fit : g.out (kn known at_) at_ <= g.cap
 ways : ∀ k, k < j -> (h : k < (g.aN0 at_).length) -> (g.aN0 at_)[k].toNat < g.len /\ kn known (g.aN0 at_)[k].toNat = g.out (kn known at_) at_
 done : ∀ p, p < g.len -> 0 <= kn known p -> (p : Int) ∈ wk \/ p = at_ \/ g.okAt (kn known) p
 least : ∀ G, g.good G -> ∀ p, p < g.len -> 0 <= kn known p -> G p = kn known p
theorem HI.start {g : Gr} (h0 : 0 < g.len) (hc : 0 <= g.cap) : HI g ((List.replicate g.len (-1)).set 0 0) [0] := by
 have hk : ∀ p, kn ((List.replicate g.len (-1)).set 0 0) p = if p = 0 then 0 else -1 := fun p => by
  rw [kn_set (by simpa using h0)]
  split
  ·rfl
  ·simp [kn, List.getD, List.getElem?_replicate]; split <;> rfl
 refine ⟨by simp, by simp [hk], fun p _ => by rw [hk]; split <;> omega, fun p _ => by rw [hk]; split <;> omega, fun x hx => ?_, fun p _ hp => ?_, fun G hG p _ hp => ?_⟩
 ·simp at hx; subst hx; simp [hk, h0]
 ·rw [hk] at hp; split at hp
  ·subst p; simp
  ·omega
 ·rw [hk] at hp ⊢; split at hp
  ·subst p; simp [hG.1]
  ·omega
theorem HI.end {known : List Int} (h : HI g known []) : g.hB = true := by
 simp only [hB, decide_eq_true_eq]
 refine ⟨kn known, h.zero, fun p h1 h2 => ?_⟩
 rcases h.done p h1 h2 with h3 | h3
 ·cases h3
 ·exact h3
theorem HI.last {known work : List Int} {x : Int} (h : HI g known (work ++ [x])) : 0 <= x /\ x.toNat < g.len /\ 0 <= kn known x.toNat := h.work x (by simp)
theorem HI.begin {known work : List Int} {x : Int} (h : HI g known (work ++ [x])) (h1 : 0 <= kn known x.toNat - g.pops x.toNat) (h2 : g.out (kn known x.toNat) x.toNat <= g.cap) : HJ g x.toNat 0 known work := by
 obtain ⟨a, b, c⟩ := h.last
 refine ⟨h.len, h.zero, h.low, h.cap, fun y hy => h.work y (by simp [hy]), b, c, h1, h2, fun k hk => by omega, fun p hp hq => ?_, h.least⟩
 rcases h.done p hp hq with h3 | h3
 ·simp at h3
  rcases h3 with h3 | h3
  ·exact .inl h3
  ·exact .inr (.inl (by omega))
 ·exact .inr (.inr h3)
theorem HI.bad {known work : List Int} {x : Int} (h : HI g known (work ++ [x])) (hb : kn known x.toNat - g.pops x.toNat < 0 \/ g.cap < g.out (kn known x.toNat) x.toNat) : g.hB = false := by
 obtain ⟨a, b, c⟩ := h.last
 simp only [hB, decide_eq_false_iff_not]
 rintro ⟨G, hG⟩
 have e := h.least G hG _ b c
 have := hG.2 _ b (by rw [e]; exact c)
 unfold okAt at this
 rw [e] at this
 omega
theorem HJ.bad {known work : List Int} {a j : Nat} (h : HJ g a j known work) (hj : j < (g.aN0 a).length)
  (hb : g.len <= (g.aN0 a)[j].toNat \/ 0 <= kn known (g.aN0 a)[j].toNat /\ kn known (g.aN0 a)[j].toNat ≠ g.out (kn known a) a) : g.hB = false := by
 simp only [hB, decide_eq_false_iff_not]
 rintro ⟨G, hG⟩
 have e := h.least G hG _ h.here h.got
 have h1 := (hG.2 _ h.here (by rw [e]; exact h.got)).2.2 _ (List.getElem_mem hj)
 rcases hb with hb | ⟨hb, hn⟩
 ·omega
 ·have e2 := h.least G hG _ h1.1 hb
  rw [e2, e] at h1
  exact hn h1.2
theorem HJ.same {known work : List Int} {a j : Nat} (h : HJ g a j known work) (hj : j < (g.aN0 a).length) (h1 : (g.aN0 a)[j].toNat < g.len) (h2 : kn known (g.aN0 a)[j].toNat = g.out (kn known a) a) : HJ g a (j + 1) known work :=
 ⟨h.len, h.zero, h.low, h.cap, h.work, h.here, h.got, h.en, h.fit, fun k hk hl => by
  by_cases e : k = j
  ·subst e; exact ⟨h1, h2⟩
  ·exact h.ways k (by omega) hl, h.done, h.least⟩
theorem HJ.new {known work : List Int} {a j : Nat} (h : HJ g a j known work) (hj : j < (g.aN0 a).length) (h0 : 0 <= (g.aN0 a)[j]) (hpu : ∀ p, p < g.len -> 0 <= g.ax0 p) (h1 : (g.aN0 a)[j].toNat < g.len) (h2 : kn known (g.aN0 a)[j].toNat < 0) :
  HJ g a (j + 1) (known.set (g.aN0 a)[j].toNat (g.out (kn known a) a)) (work ++ [(g.aN0 a)[j]]) := by
 have hl := h.len
 have ho : 0 <= g.out (kn known a) a := by have := h.en; have := hpu a h.here; unfold out; omega
 generalize hq : (g.aN0 a)[j] = q at *
 have hk : ∀ p, kn (known.set q.toNat (g.out (kn known a) a)) p = if p = q.toNat then g.out (kn known a) a else kn known p := kn_set (by omega)
 have hne : ∀ p, 0 <= kn known p -> kn (known.set q.toNat (g.out (kn known a) a)) p = kn known p := fun p hp => by
  rw [hk, if_neg]; intro e; subst e; omega
 have hgot := h.got
 have ha := hne a h.got
 refine ⟨by simpa using hl, by rw [hne 0 (by rw [h.zero]; omega)]; exact h.zero, fun p hp => ?_, fun p hp => ?_, fun x hx => ?_, h.here, by rw [ha]; exact h.got, by rw [ha]; exact h.en, by rw [ha]; exact h.fit, fun k hk' hl' => ?_, fun p hp hp0 => ?_, fun G hG p hp hp0 => ?_⟩
 ·rw [hk]; split
  ·omega
  ·exact h.low p hp
 ·rw [hk]; split
  ·exact h.fit
  ·exact h.cap p hp
 ·simp at hx
  rcases hx with hx | rfl
  ·obtain ⟨q1, q2, q3⟩ := h.work x hx
   exact ⟨q1, q2, by rw [hne _ q3]; exact q3⟩
  ·exact ⟨h0, h1, by rw [hk]; simp; exact ho⟩
 ·rw [ha]
  by_cases e : k = j
  ·subst e; rw [hq]; exact ⟨h1, by rw [hk]; simp⟩
  ·obtain ⟨w1, w2⟩ := h.ways k (by omega) hl'
   refine ⟨w1, ?_⟩
   rw [hne _ (by rw [w2]; exact ho)]; exact w2
 ·by_cases e : p = q.toNat
  ·left; subst e; simp; right; omega
  ·have e1 : kn (known.set q.toNat (g.out (kn known a) a)) p = kn known p := by rw [hk, if_neg e]
   rw [e1] at hp0
   rcases h.done p hp hp0 with h3 | h3 | h3
   ·left; simp [h3]
   ·right; left; exact h3
   ·right; right
    obtain ⟨o1, o2, o3⟩ := h3
    refine ⟨by rw [e1]; exact o1, by rw [e1]; exact o2, fun r hr => ?_⟩
    obtain ⟨r1, r2⟩ := o3 r hr
    refine ⟨r1, ?_⟩
    rw [e1, hne _ ?_]
    ·exact r2
    ·rw [r2]; have := hpu p hp; unfold out; omega
 ·by_cases e : p = q.toNat
  ·subst e
   rw [hk]; simp
   have e2 := h.least G hG _ h.here h.got
   have h3 := (hG.2 _ h.here (by rw [e2]; exact h.got)).2.2 q (by rw [<- hq]; exact List.getElem_mem hj)
   rw [h3.2, e2]
  ·have e1 : kn (known.set q.toNat (g.out (kn known a) a)) p = kn known p := by rw [hk, if_neg e]
   rw [e1] at hp0 ⊢
   exact h.least G hG p hp hp0
theorem HJ.end {known work : List Int} {a j : Nat} (h : HJ g a j known work) (hj : (g.aN0 a).length <= j) : HI g known work :=
 ⟨h.len, h.zero, h.low, h.cap, h.work, fun p h1 h2 => by
  rcases h.done p h1 h2 with h3 | h3 | h3
  ·exact .inl h3
  ·subst h3
   refine .inr ⟨h.en, h.fit, fun q hq => ?_⟩
   obtain ⟨k, hk, rfl⟩ := List.getElem_of_mem hq
   exact h.ways k (by omega) hk
  ·exact .inr h3, h.least⟩
end Gr
end Go.Am
end

section
namespace Go.Am
set_option maxRecDepth 100000
attribute [local irreducible] vc vcIs vcI vcOp vcD vcDp vcDR vcT vcAR bp0 aK0 panD neG ne pv J bm0 bl0 bt0 aS0 evK evsK nthK objK boxK rowK bg0 intK strK aggK fnK ifcK aw0 at0 ldK ldaK iaK srcK stK appK appD bv0 pvK br0 aF0 bk0
def Ins.aN0 (i : Ins) (p : Int) : List Int := if i.op = 10 then [] else if i.op = 7 then [i.a] else if i.op = 8 then [p + 1, i.a] else [p + 1]
def Mdl.gr (m : Mdl) (f : Fnc) : Gr := ⟨f.code.length, fun p => m.pops (f.code.getD p default), fun p => (f.code.getD p default).ax0, f.stack, fun p => (f.code.getD p default).aN0 p⟩
abbrev a30 (l : List Int) : List (List V) := l.map fun x => [vI x]
theorem mW0 (n i : Nat) (a b : List V) (h : i < n) : (List.replicate i a ++ List.replicate (n - i) b).set i a = List.replicate (i + 1) a ++ List.replicate (n - (i + 1)) b := by
 rw [List.set_append_right _ _ (by simp)]
 obtain ⟨k, hk⟩ : ∃ k, n - i = k + 1 := ⟨n - i - 1, by omega⟩
 have : n - (i + 1) = k := by omega
 rw [hk, this]
 simp [List.replicate_succ']
 rw [<- List.replicate_succ', List.replicate_succ]
 rfl
set_option maxHeartbeats 4000000 in
theorem lk0 (m : Mdl) (n : Nat) (hn : n < m.funcs.length) (h0 : 0 < m.funcs[n].code.length) (h1 : m.funcs[n].code.length <= 16384) (hc0 : 0 <= m.funcs[n].stack) (hc1 : m.funcs[n].stack <= 256)
  (hp : ∀ i ∈ m.funcs[n].code, 0 <= m.pops i /\ m.pops i <= 8 /\ (i.op = 9 -> 0 <= i.a /\ i.a.toNat < m.funcs.length) /\ (i.op = 7 \/ i.op = 8 -> 0 <= i.a)) :
  Ret prog ju0 [m.V, vI n] (vB (m.gr m.funcs[n]).hB) := by
 refine af0 m00 (by simp) ?_
 simp +contextual (maxSteps := 2000000) (disch := omega) [-Int.not_lt, -Int.not_le, -Nat.not_lt, -Nat.not_le, sx, ig0]
 generalize hf : m.funcs[n] = f at *
 have hg : (m.gr f).len = f.code.length := rfl
 have hpu : ∀ p, 0 <= (m.gr f).ax0 p := fun p => by simp only [Mdl.gr, Ins.ax0]; split <;> omega
 refine aA0 f.code.length (fun i => [(29, vI i), (28, vI f.code.length), (6, .arr (.l 25 0) 0 f.code.length), (7, .arr (.l 26 0) 0 1), (2, .bp (.l 2 0) 0), (5, .bp (.l 5 0) 0)])
  (fun i => [(.l 25 0, .row 3 1 true (List.replicate i [vI (-1)] ++ List.replicate (f.code.length - i) [vI 0])), (.l 26 0, .row 3 1 true [[vI 0]]), (.l 2 0, .box [.lst (m.consts.map Val.cells), .lst (m.funcs.map Fnc.cells)]), (.l 5 0, .box f.cells)])
  (Wk.subs (by simp) (by simp)) ?_
 intro i hi
 simp +contextual (maxSteps := 2000000) (disch := omega) [-Int.not_lt, -Int.not_le, -Nat.not_lt, -Nat.not_le, sx]
 refine ⟨fun hlt => ?_, fun hge => ?_⟩
 ·refine cR0 (e := [vI 0]) (by rw [List.getElem?_append_right (by simp)]; simp [List.getElem?_replicate]; omega) ?_
  simp +contextual (maxSteps := 2000000) (disch := omega) [-Int.not_lt, -Int.not_le, -Nat.not_lt, -Nat.not_le, sx]
  rw [mW0 _ _ _ _ hlt]
  exact .of hlt (Wk.subs (by simp) (by simp))
 have hi : i = f.code.length := by omega
 subst hi
 refine cR0 (e := [vI (-1)]) (by simp [List.getElem?_replicate, h0]) ?_
 simp +contextual (maxSteps := 2000000) (disch := omega) [-Int.not_lt, -Int.not_le, -Nat.not_lt, -Nat.not_le, sx]
 refine ap0 (fun x : List Int × List Int × List Int => 2 * Gr.unk x.1 + x.2.1.length)
  (fun x => [(6, .arr (.l 25 0) 0 x.1.length), (7, .arr (.l 999 0) 0 x.2.1.length), (2, .bp (.l 2 0) 0), (5, .bp (.l 5 0) 0)])
  (fun x => [(.l 25 0, .row 3 1 true (a30 x.1)), (.l 999 0, .row 3 1 true (a30 x.2.1 ++ a30 x.2.2)), (.l 2 0, .box [.lst (m.consts.map Val.cells), .lst (m.funcs.map Fnc.cells)]), (.l 5 0, .box f.cells)])
  (fun x => Gr.HI (m.gr f) x.1 x.2.1 /\ 2 * Gr.unk x.1 + x.2.1.length <= 2 * f.code.length + 1) ((List.replicate f.code.length (-1)).set 0 0, [0], [])
  ⟨Gr.HI.start h0 hc0, by have := List.countP_le_length (p := fun x : Int => decide (x < 0)) (l := (List.replicate f.code.length (-1)).set 0 0); simp at this; simp [Gr.unk]; omega⟩
  (Wk.rens (.l 26 0) (.l 999 0) rfl (by simp [a30, List.map_set]) (by simp [renF]) (by simp [renF, bw0])) ?_
 rintro ⟨known, work, junk⟩ ⟨hI, hm⟩
 rcases work.eq_nil_or_concat with rfl | ⟨work, x, rfl⟩
 ·simp +contextual (maxSteps := 2000000) (disch := omega) [-Int.not_lt, -Int.not_le, -Nat.not_lt, -Nat.not_le, sx, hI.end]
 simp only [List.concat_eq_append] at hI hm ⊢
 obtain ⟨hx0, hxl, hxk⟩ := hI.last
 have hlen := hI.len
 simp only [List.length_append, List.length_cons, List.length_nil] at hm
 rw [hg] at hlen hxl
 simp +contextual (maxSteps := 2000000) (disch := omega) [-Int.not_lt, -Int.not_le, -Nat.not_lt, -Nat.not_le, sx]
 refine cR0 (e := [vI x]) (by simp) ?_
 simp +contextual (maxSteps := 2000000) (disch := omega) [-Int.not_lt, -Int.not_le, -Nat.not_lt, -Nat.not_le, sx]
 have hgd : f.code.getD x.toNat default = f.code[x.toNat] := by simp [hxl]
 have hgp : (m.gr f).pops x.toNat = m.pops f.code[x.toNat] := by simp [Mdl.gr, hxl]
 have hgu : (m.gr f).ax0 x.toNat = f.code[x.toNat].ax0 := by simp [Mdl.gr, hxl]
 have hgn : (m.gr f).aN0 x.toNat = f.code[x.toNat].aN0 x := by simp [Mdl.gr, hxl]; rw [Int.max_eq_left hx0]
 obtain ⟨p0, p1, p9, p7⟩ := hp _ (List.getElem_mem hxl)
 have hu : 0 <= f.code[x.toNat].ax0 /\ f.code[x.toNat].ax0 <= 1 := by unfold Ins.ax0; split <;> omega
 generalize hi : f.code[x.toNat] = i at *
 have hkx : x.toNat < known.length := by omega
 have hk : Gr.kn known x.toNat = known[x.toNat] := Gr.qQ0 hkx
 have hcapx := hI.cap x.toNat (by rw [hg]; omega)
 have hout : (m.gr f).out (Gr.kn known x.toNat) x.toNat = known[x.toNat] - m.pops i + i.ax0 := by unfold Gr.out; rw [hk, hgp, hgu]
 have hcapf : (m.gr f).cap = f.stack := rfl
 have hB1 := fun h => hI.bad (.inl h)
 have hB2 := fun h => hI.bad (.inr h)
 have hJ := hI.begin
 rw [hout, hcapf] at hB2 hJ
 rw [hk] at hB1 hJ hxk hcapx
 rw [hgp] at hB1 hJ
 rw [hcapf] at hcapx
 generalize hkv : known[x.toNat] = kx at *
 have hkv2 : known[x.toNat]? = some kx := by rw [List.getElem?_eq_getElem hkx, hkv]
 refine ab0 ?_; simp; refine aa0 (mf0 m i p9) (by simp) ?_
 simp +contextual (maxSteps := 2000000) (disch := omega) [-Int.not_lt, -Int.not_le, -Nat.not_lt, -Nat.not_le, sx]
 have hkv3 : ∀ h : x.toNat < known.length, known[x.toNat]'h = kx := fun h => by rw [List.getElem?_eq_getElem h] at hkv2; injection hkv2
 simp only [hkv3]
 refine ⟨hB1, fun ha => ⟨hB2, fun hb => ⟨fun e10 => ?_, fun n10 => ⟨fun e7 => ?_, fun n7 => ⟨fun e8 => ?_, fun n8 => ?_⟩⟩⟩⟩⟩
 ·have hnx : i.aN0 x = [] := by simp [Ins.aN0, e10]
  rw [hnx] at hgn
  refine aA0 0 (fun _ => [(103, vI 0), (102, vI 0), (6, .arr (.l 25 0) 0 known.length), (7, .arr (.l 999 0) 0 work.length), (2, .bp (.l 2 0) 0), (5, .bp (.l 5 0) 0)])
   (fun _ => [(.l 25 0, .row 3 1 true (a30 known)), (.l 999 0, .row 3 1 true (a30 work ++ a30 (x :: junk))), (.l 2 0, .box [.lst (m.consts.map Val.cells), .lst (m.funcs.map Fnc.cells)]), (.l 5 0, .box f.cells)]) (Wk.subs (by simp) (by simp)) ?_
  intro j hj
  simp +contextual (maxSteps := 2000000) (disch := omega) [-Int.not_lt, -Int.not_le, -Nat.not_lt, -Nat.not_le, sx]
  refine .of (known, work, x :: junk) ⟨(hJ (by omega) (by omega)).end (by rw [hgn]; simp), ?_⟩ ?_ (Wk.subs (by simp) (by simp))
  ·simp only; omega
  ·simp only [List.length_append, List.length_cons, List.length_nil]; omega
 ·have hnx : i.aN0 x = [i.a] := by simp [Ins.aN0, e7]
  rw [hnx] at hgn
  refine ap0 (fun y : List Int × List Int × List Int × Nat => 1 - y.2.2.2)
   (fun y => [(103, vI y.2.2.2), (102, vI 1), (101, .arr (.l 998 0) 0 1), (13, vI (kx - m.pops i + i.ax0)), (6, .arr (.l 25 0) 0 y.1.length), (7, .arr (.l 999 0) 0 y.2.1.length), (2, .bp (.l 2 0) 0), (5, .bp (.l 5 0) 0)])
   (fun y => [(.l 998 0, .row 3 1 true (a30 [i.a])), (.l 25 0, .row 3 1 true (a30 y.1)), (.l 999 0, .row 3 1 true (a30 y.2.1 ++ a30 y.2.2.1)), (.l 2 0, .box [.lst (m.consts.map Val.cells), .lst (m.funcs.map Fnc.cells)]), (.l 5 0, .box f.cells)])
   (fun y => (m.gr f).HJ x.toNat y.2.2.2 y.1 y.2.1 /\ y.1[x.toNat]? = some kx /\ 2 * Gr.unk y.1 + y.2.1.length <= 2 * Gr.unk known + work.length) (known, work, x :: junk, 0) ⟨hJ (by omega) (by omega), hkv2, Nat.le_refl _⟩
   (Wk.rens (.l 93 0) (.l 998 0) rfl (by simp [a30]) (by simp [renF]) (by simp [renF, bw0])) ?_
  rintro ⟨kn', wk', jk', j⟩ ⟨hj, hy, hm'⟩
  have hjl := hj.len
  rw [hg] at hjl
  simp only at hy hm' hj hjl
  simp +contextual (maxSteps := 2000000) (disch := omega) [-Int.not_lt, -Int.not_le, -Nat.not_lt, -Nat.not_le, sx]
  refine ⟨fun hlt => ?_, fun hge => ?_⟩
  ·have hjn : j < ((m.gr f).aN0 x.toNat).length := by rw [hgn]; simp; omega
   obtain ⟨q, hq, hq0⟩ : ∃ q, (([i.a] : List Int).map fun x => [vI x])[j]? = some [vI q] /\ ((m.gr f).aN0 x.toNat)[j]? = some q /\ 0 <= q := by
    rw [hgn]
    obtain rfl : j = 0 := by omega
    exact ⟨i.a, rfl, rfl, p7 (.inl e7)⟩
   obtain ⟨hq1, hq2⟩ := hq0
   have hqj : ((m.gr f).aN0 x.toNat)[j] = q := by rw [List.getElem?_eq_getElem hjn] at hq1; injection hq1
   have hkn : Gr.kn kn' x.toNat = kx := by simp [Gr.kn, hy]
   have ho : (m.gr f).out (Gr.kn kn' x.toNat) x.toNat = kx - m.pops i + i.ax0 := by unfold Gr.out; rw [hkn, hgp, hgu]
   have hbad := hj.bad hjn
   have hsame := hj.same hjn
   have hnew := hj.new hjn (by rw [hqj]; exact hq2) (fun p _ => hpu p)
   rw [hqj, ho, hg] at hbad hsame hnew
   refine cR0 hq ?_
   simp +contextual (maxSteps := 2000000) (disch := omega) [-Int.not_lt, -Int.not_le, -Nat.not_lt, -Nat.not_le, sx]
   refine ⟨fun h => hbad (.inl (by omega)), fun h => ?_⟩
   have hqk : q.toNat < kn'.length := by omega
   have hkq : Gr.kn kn' q.toNat = kn'[q.toNat] := Gr.qQ0 hqk
   rw [hkq] at hbad hsame hnew
   have hr1 : List.take wk'.length (a30 wk' ++ a30 jk') ++ [[V.c (Value.int IntKind.i64 q)]] = a30 (wk' ++ [q]) ++ a30 [] := by
    rw [List.take_append_of_le_length (by simp), List.take_of_length_le (by simp)]; simp
   have hr2 : (a30 kn').set q.toNat [V.c (Value.int IntKind.i64 (kx - m.pops i + i.ax0))] = a30 (kn'.set q.toNat (kx - m.pops i + i.ax0)) := by simp [a30, List.map_set]
   rw [hr1, hr2]
   refine ⟨fun hge0 => ⟨fun hne => hbad (.inr ⟨hge0, hne⟩), fun heq => ?_⟩, fun hlt0 => ?_⟩
   ·exact .of (kn', wk', jk', j + 1) ⟨hsame (by omega) heq, hy, hm'⟩ (by simp only; omega) (Wk.subs (by simp) (by simp))
   ·have hun := Gr.pS0 (x := kx - m.pops i + i.ax0) hqk (by omega) (by omega)
    have hne : q.toNat ≠ x.toNat := fun e => by
     have h2 : kn'[q.toNat]? = some kx := by rw [e]; exact hy
     rw [List.getElem?_eq_getElem hqk] at h2
     injection h2
     omega
    refine .of (kn'.set q.toNat (kx - m.pops i + i.ax0), wk' ++ [q], [], j + 1) ⟨hnew (by omega) (by omega), by rw [List.getElem?_set_ne hne]; exact hy, by simp only [List.length_append, List.length_cons, List.length_nil]; omega⟩ (by simp only; omega)
     (Wk.rens (.l 141 0) (.l 999 0) rfl (by simp) (by simp [renF]) (by simp [renF, bw0]))
  ·refine .of (kn', wk', jk') ⟨hj.end (by rw [hgn]; simp; omega), ?_⟩ ?_ (Wk.subs (by simp) (by simp))
   ·simp only; omega
   ·simp only [List.length_append, List.length_cons, List.length_nil]; omega
 ·have hnx : i.aN0 x = [x + 1, i.a] := by simp [Ins.aN0, e8]
  rw [hnx] at hgn
  refine ap0 (fun y : List Int × List Int × List Int × Nat => 2 - y.2.2.2)
   (fun y => [(103, vI y.2.2.2), (102, vI 2), (101, .arr (.l 998 0) 0 2), (13, vI (kx - m.pops i + i.ax0)), (6, .arr (.l 25 0) 0 y.1.length), (7, .arr (.l 999 0) 0 y.2.1.length), (2, .bp (.l 2 0) 0), (5, .bp (.l 5 0) 0)])
   (fun y => [(.l 998 0, .row 3 1 true (a30 [x + 1, i.a])), (.l 25 0, .row 3 1 true (a30 y.1)), (.l 999 0, .row 3 1 true (a30 y.2.1 ++ a30 y.2.2.1)), (.l 2 0, .box [.lst (m.consts.map Val.cells), .lst (m.funcs.map Fnc.cells)]), (.l 5 0, .box f.cells)])
   (fun y => (m.gr f).HJ x.toNat y.2.2.2 y.1 y.2.1 /\ y.1[x.toNat]? = some kx /\ 2 * Gr.unk y.1 + y.2.1.length <= 2 * Gr.unk known + work.length) (known, work, x :: junk, 0) ⟨hJ (by omega) (by omega), hkv2, Nat.le_refl _⟩
   (Wk.rens (.l 100 0) (.l 998 0) rfl (by simp [a30]) (by simp [renF]) (by simp [renF, bw0])) ?_
  rintro ⟨kn', wk', jk', j⟩ ⟨hj, hy, hm'⟩
  have hjl := hj.len
  rw [hg] at hjl
  simp only at hy hm' hj hjl
  simp +contextual (maxSteps := 2000000) (disch := omega) [-Int.not_lt, -Int.not_le, -Nat.not_lt, -Nat.not_le, sx]
  refine ⟨fun hlt => ?_, fun hge => ?_⟩
  ·have hjn : j < ((m.gr f).aN0 x.toNat).length := by rw [hgn]; simp; omega
   obtain ⟨q, hq, hq0⟩ : ∃ q, (([x + 1, i.a] : List Int).map fun x => [vI x])[j]? = some [vI q] /\ ((m.gr f).aN0 x.toNat)[j]? = some q /\ 0 <= q := by
    rw [hgn]
    obtain rfl | rfl : j = 0 \/ j = 1 := by omega
    ·exact ⟨x + 1, rfl, rfl, by omega⟩
    ·exact ⟨i.a, rfl, rfl, p7 (.inr e8)⟩
   obtain ⟨hq1, hq2⟩ := hq0
   have hqj : ((m.gr f).aN0 x.toNat)[j] = q := by rw [List.getElem?_eq_getElem hjn] at hq1; injection hq1
   have hkn : Gr.kn kn' x.toNat = kx := by simp [Gr.kn, hy]
   have ho : (m.gr f).out (Gr.kn kn' x.toNat) x.toNat = kx - m.pops i + i.ax0 := by unfold Gr.out; rw [hkn, hgp, hgu]
   have hbad := hj.bad hjn
   have hsame := hj.same hjn
   have hnew := hj.new hjn (by rw [hqj]; exact hq2) (fun p _ => hpu p)
   rw [hqj, ho, hg] at hbad hsame hnew
   refine cR0 hq ?_
   simp +contextual (maxSteps := 2000000) (disch := omega) [-Int.not_lt, -Int.not_le, -Nat.not_lt, -Nat.not_le, sx]
   refine ⟨fun h => hbad (.inl (by omega)), fun h => ?_⟩
   have hqk : q.toNat < kn'.length := by omega
   have hkq : Gr.kn kn' q.toNat = kn'[q.toNat] := Gr.qQ0 hqk
   rw [hkq] at hbad hsame hnew
   have hr1 : List.take wk'.length (a30 wk' ++ a30 jk') ++ [[V.c (Value.int IntKind.i64 q)]] = a30 (wk' ++ [q]) ++ a30 [] := by
    rw [List.take_append_of_le_length (by simp), List.take_of_length_le (by simp)]; simp
   have hr2 : (a30 kn').set q.toNat [V.c (Value.int IntKind.i64 (kx - m.pops i + i.ax0))] = a30 (kn'.set q.toNat (kx - m.pops i + i.ax0)) := by simp [a30, List.map_set]
   rw [hr1, hr2]
   refine ⟨fun hge0 => ⟨fun hne => hbad (.inr ⟨hge0, hne⟩), fun heq => ?_⟩, fun hlt0 => ?_⟩
   ·exact .of (kn', wk', jk', j + 1) ⟨hsame (by omega) heq, hy, hm'⟩ (by simp only; omega) (Wk.subs (by simp) (by simp))
   ·have hun := Gr.pS0 (x := kx - m.pops i + i.ax0) hqk (by omega) (by omega)
    have hne : q.toNat ≠ x.toNat := fun e => by
     have h2 : kn'[q.toNat]? = some kx := by rw [e]; exact hy
     rw [List.getElem?_eq_getElem hqk] at h2
     injection h2
     omega
    refine .of (kn'.set q.toNat (kx - m.pops i + i.ax0), wk' ++ [q], [], j + 1) ⟨hnew (by omega) (by omega), by rw [List.getElem?_set_ne hne]; exact hy, by simp only [List.length_append, List.length_cons, List.length_nil]; omega⟩ (by simp only; omega)
     (Wk.rens (.l 141 0) (.l 999 0) rfl (by simp) (by simp [renF]) (by simp [renF, bw0]))
  ·refine .of (kn', wk', jk') ⟨hj.end (by rw [hgn]; simp; omega), ?_⟩ ?_ (Wk.subs (by simp) (by simp))
   ·simp only; omega
   ·simp only [List.length_append, List.length_cons, List.length_nil]; omega
 ·have hnx : i.aN0 x = [x + 1] := by simp [Ins.aN0, n10, n7, n8]
  rw [hnx] at hgn
  refine ap0 (fun y : List Int × List Int × List Int × Nat => 1 - y.2.2.2)
   (fun y => [(103, vI y.2.2.2), (102, vI 1), (101, .arr (.l 998 0) 0 1), (13, vI (kx - m.pops i + i.ax0)), (6, .arr (.l 25 0) 0 y.1.length), (7, .arr (.l 999 0) 0 y.2.1.length), (2, .bp (.l 2 0) 0), (5, .bp (.l 5 0) 0)])
   (fun y => [(.l 998 0, .row 3 1 true (a30 [x + 1])), (.l 25 0, .row 3 1 true (a30 y.1)), (.l 999 0, .row 3 1 true (a30 y.2.1 ++ a30 y.2.2.1)), (.l 2 0, .box [.lst (m.consts.map Val.cells), .lst (m.funcs.map Fnc.cells)]), (.l 5 0, .box f.cells)])
   (fun y => (m.gr f).HJ x.toNat y.2.2.2 y.1 y.2.1 /\ y.1[x.toNat]? = some kx /\ 2 * Gr.unk y.1 + y.2.1.length <= 2 * Gr.unk known + work.length) (known, work, x :: junk, 0) ⟨hJ (by omega) (by omega), hkv2, Nat.le_refl _⟩
   (Wk.rens (.l 86 0) (.l 998 0) rfl (by simp [a30]) (by simp [renF]) (by simp [renF, bw0])) ?_
  rintro ⟨kn', wk', jk', j⟩ ⟨hj, hy, hm'⟩
  have hjl := hj.len
  rw [hg] at hjl
  simp only at hy hm' hj hjl
  simp +contextual (maxSteps := 2000000) (disch := omega) [-Int.not_lt, -Int.not_le, -Nat.not_lt, -Nat.not_le, sx]
  refine ⟨fun hlt => ?_, fun hge => ?_⟩
  ·have hjn : j < ((m.gr f).aN0 x.toNat).length := by rw [hgn]; simp; omega
   obtain ⟨q, hq, hq0⟩ : ∃ q, (([x + 1] : List Int).map fun x => [vI x])[j]? = some [vI q] /\ ((m.gr f).aN0 x.toNat)[j]? = some q /\ 0 <= q := by
    rw [hgn]
    obtain rfl : j = 0 := by omega
    exact ⟨x + 1, rfl, rfl, by omega⟩
   obtain ⟨hq1, hq2⟩ := hq0
   have hqj : ((m.gr f).aN0 x.toNat)[j] = q := by rw [List.getElem?_eq_getElem hjn] at hq1; injection hq1
   have hkn : Gr.kn kn' x.toNat = kx := by simp [Gr.kn, hy]
   have ho : (m.gr f).out (Gr.kn kn' x.toNat) x.toNat = kx - m.pops i + i.ax0 := by unfold Gr.out; rw [hkn, hgp, hgu]
   have hbad := hj.bad hjn
   have hsame := hj.same hjn
   have hnew := hj.new hjn (by rw [hqj]; exact hq2) (fun p _ => hpu p)
   rw [hqj, ho, hg] at hbad hsame hnew
   refine cR0 hq ?_
   simp +contextual (maxSteps := 2000000) (disch := omega) [-Int.not_lt, -Int.not_le, -Nat.not_lt, -Nat.not_le, sx]
   refine ⟨fun h => hbad (.inl (by omega)), fun h => ?_⟩
   have hqk : q.toNat < kn'.length := by omega
   have hkq : Gr.kn kn' q.toNat = kn'[q.toNat] := Gr.qQ0 hqk
   rw [hkq] at hbad hsame hnew
   have hr1 : List.take wk'.length (a30 wk' ++ a30 jk') ++ [[V.c (Value.int IntKind.i64 q)]] = a30 (wk' ++ [q]) ++ a30 [] := by
    rw [List.take_append_of_le_length (by simp), List.take_of_length_le (by simp)]; simp
   have hr2 : (a30 kn').set q.toNat [V.c (Value.int IntKind.i64 (kx - m.pops i + i.ax0))] = a30 (kn'.set q.toNat (kx - m.pops i + i.ax0)) := by simp [a30, List.map_set]
   rw [hr1, hr2]
   refine ⟨fun hge0 => ⟨fun hne => hbad (.inr ⟨hge0, hne⟩), fun heq => ?_⟩, fun hlt0 => ?_⟩
   ·exact .of (kn', wk', jk', j + 1) ⟨hsame (by omega) heq, hy, hm'⟩ (by simp only; omega) (Wk.subs (by simp) (by simp))
   ·have hun := Gr.pS0 (x := kx - m.pops i + i.ax0) hqk (by omega) (by omega)
    have hne : q.toNat ≠ x.toNat := fun e => by
     have h2 : kn'[q.toNat]? = some kx := by rw [e]; exact hy
     rw [List.getElem?_eq_getElem hqk] at h2
     injection h2
     omega
    refine .of (kn'.set q.toNat (kx - m.pops i + i.ax0), wk' ++ [q], [], j + 1) ⟨hnew (by omega) (by omega), by rw [List.getElem?_set_ne hne]; exact hy, by simp only [List.length_append, List.length_cons, List.length_nil]; omega⟩ (by simp only; omega)
     (Wk.rens (.l 141 0) (.l 999 0) rfl (by simp) (by simp [renF]) (by simp [renF, bw0]))
  ·refine .of (kn', wk', jk') ⟨hj.end (by rw [hgn]; simp; omega), ?_⟩ ?_ (Wk.subs (by simp) (by simp))
   ·simp only; omega
   ·simp only [List.length_append, List.length_cons, List.length_nil]; omega
structure Fnc.bnd (m : Mdl) (f : Fnc) : Prop where
 p0 : 0 <= f.params
 p1 : f.params <= 8
 l0 : f.params <= f.locals
 l1 : f.locals <= 256
 z0 : 0 <= f.zero
 z1 : f.zero < m.consts.length
 s0 : 1 <= f.stack
 s1 : f.stack <= 256
 c0 : 1 <= f.code.length
 c1 : f.code.length <= 16384
structure Mdl.fnOk (m : Mdl) (states : Int) (n : Nat) (f : Fnc) : Prop where
 bnd : f.bnd m
 ins : ∀ i ∈ f.code, m.fn0 states n f i = true
 hgt : (m.gr f).hB = true
structure Mdl.vOk (m : Mdl) (states : Int) : Prop where
 fl : m.funcs.length <= 32
 s0 : 0 <= states
 s1 : states <= 32
 cl : m.consts.length <= 16384
 ct : ∀ v ∈ m.consts, v.tyc ≠ []
 fn : ∀ (n : Nat) (h : n < m.funcs.length), m.fnOk states n m.funcs[n]
open Classical in
noncomputable def Mdl.ver (m : Mdl) (states : Int) : Int := if m.vOk states then 0 else 40
theorem Mdl.oZ0 {m : Mdl} {states : Int} (h : m.vOk states) : m.ver states = 0 := if_pos h
theorem Mdl.aU0 {m : Mdl} {states : Int} (h : ¬ m.vOk states) : m.ver states = 40 := if_neg h
theorem sx0 {m : Mdl} {states : Int} {n : Nat} {f : Fnc} {i : Ins} (hn : n < m.funcs.length) (hi : m.fn0 states n f i = true) (hf : ∀ (k : Nat) (h : k < m.funcs.length), k < n -> m.funcs[k].bnd m) :
  0 <= m.pops i /\ m.pops i <= 8 /\ (i.op = 9 -> 0 <= i.a /\ i.a.toNat < m.funcs.length) /\ (i.op = 7 \/ i.op = 8 -> 0 <= i.a) := by
 simp only [Mdl.fn0, Bool.and_eq_true, decide_eq_true_eq] at hi
 obtain ⟨⟨⟨h1, h2⟩, h3⟩, h4⟩ := hi
 by_cases h9 : i.op = 9
 ·simp [Mdl.most, h9] at h3 h4
  have ha : i.a.toNat < m.funcs.length := by omega
  have hb := hf i.a.toNat ha (by omega)
  have := hb.p0
  have := hb.p1
  have hp : m.pops i = m.funcs[i.a.toNat].params := by simp [Mdl.pops, h9, ha]
  rw [hp]
  exact ⟨hb.p0, hb.p1, fun _ => ⟨h3, ha⟩, fun h => by omega⟩
 ·refine ⟨?_, ?_, fun h => absurd h h9, fun h => ?_⟩
  ·unfold Mdl.pops; (repeat' split) <;> omega
  ·unfold Mdl.pops; (repeat' split) <;> omega
  ·rcases h with h | h <;> simp [Mdl.most, h] at h3 <;> exact h3
def Mdl.CkI (m : Mdl) (i : Nat) : Prop := i <= m.consts.length /\ ∀ (k : Nat) (h : k < m.consts.length), k < i -> m.consts[k].tyc ≠ []
def Mdl.FkI (m : Mdl) (states : Int) (i : Nat) : Prop := i <= m.funcs.length /\ ∀ (k : Nat) (h : k < m.funcs.length), k < i -> m.fnOk states k m.funcs[k]
def Mdl.IkI (m : Mdl) (states : Int) (n : Nat) (f : Fnc) (i : Nat) : Prop := i <= f.code.length /\ ∀ (k : Nat) (h : k < f.code.length), k < i -> m.fn0 states n f f.code[k] = true
set_option maxHeartbeats 2000000 in
theorem h40 (m : Mdl) (states : Int) (hc : ∀ v ∈ m.consts, v.wt < 2 ^ 40) (hcl : m.consts.length < 2 ^ 40) (hfl : m.funcs.length < 2 ^ 40) (hf : ∀ f ∈ m.funcs, f.code.length < 2 ^ 40) :
  Ret prog kr0 [m.V, vI states] (vI (m.ver states)) := by
 refine af0 n00 (by simp) ?_
 simp +contextual (maxSteps := 2000000) (disch := omega) [-Int.not_lt, -Int.not_le, -Nat.not_lt, -Nat.not_le, sx, jr0]
 refine ⟨fun h => (m.aU0 fun hv => by have := hv.fl; omega).symm, fun h1 => ⟨fun h => (m.aU0 fun hv => by have := hv.s0; omega).symm, fun h2 => ⟨fun h => (m.aU0 fun hv => by have := hv.s1; omega).symm, fun h3 => ⟨fun h => (m.aU0 fun hv => by have := hv.cl; omega).symm, fun h4 => ?_⟩⟩⟩⟩
 refine ap0 (fun i : Nat => m.consts.length - i) (fun i => [(32, vI i), (31, vI m.consts.length), (30, .lst (m.consts.map Val.cells)), (2, .bp (.l 2 0) 0), (1, vI states)])
  (fun _ => [(.l 2 0, .box [.lst (m.consts.map Val.cells), .lst (m.funcs.map Fnc.cells)])]) m.CkI 0 ⟨Nat.zero_le _, by simp⟩ (Wk.subs (by simp) (by simp)) ?_
 rintro i hI
 have hi := hI.1
 simp +contextual (maxSteps := 2000000) (disch := omega) [-Int.not_lt, -Int.not_le, -Nat.not_lt, -Nat.not_le, sx]
 refine ⟨fun hlt => ?_, fun hge => ?_⟩
 ·refine ab0 ?_; simp; refine aa0 (nZ0 m.consts[i] (hc _ (List.getElem_mem hlt))) (by simp) ?_
  simp +contextual (maxSteps := 2000000) (disch := omega) [-Int.not_lt, -Int.not_le, -Nat.not_lt, -Nat.not_le, sx, bM0]
  refine ⟨fun h => (m.aU0 fun hv => hv.ct _ (List.getElem_mem hlt) h).symm, fun h => ?_⟩
  refine .of (i + 1) ⟨hlt, fun k hk1 hk2 => ?_⟩ (by omega) (Wk.subs (by simp) (by simp))
  by_cases e : k = i
  ·subst e; exact h
  ·exact hI.2 k hk1 (by omega)
 have hct : ∀ v ∈ m.consts, v.tyc ≠ [] := fun v hv => by
  obtain ⟨k, hk, rfl⟩ := List.getElem_of_mem hv
  exact hI.2 k hk (by omega)
 clear hI hi hge
 refine ap0 (fun i : Nat => m.funcs.length - i) (fun i => [(43, vI i), (42, vI m.funcs.length), (41, .lst (m.funcs.map Fnc.cells)), (2, .bp (.l 2 0) 0), (1, vI states)])
  (fun _ => [(.l 2 0, .box [.lst (m.consts.map Val.cells), .lst (m.funcs.map Fnc.cells)])]) (m.FkI states) 0 ⟨Nat.zero_le _, by simp⟩ (Wk.subs (by simp) (by simp)) ?_
 rintro i hI
 have hi := hI.1
 simp +contextual (maxSteps := 2000000) (disch := omega) [-Int.not_lt, -Int.not_le, -Nat.not_lt, -Nat.not_le, sx]
 refine ⟨fun hlt => ?_, fun hge => ?_⟩
 ·have hfl := hf _ (List.getElem_mem hlt)
  have hbd : m.vOk states -> m.fnOk states i m.funcs[i] := fun hv => hv.fn i hlt
  generalize hfe : m.funcs[i] = f at *
  refine ⟨fun h => (m.aU0 fun hv => by have := (hbd hv).bnd.p0; omega).symm, fun b0 => ⟨fun h => (m.aU0 fun hv => by have := (hbd hv).bnd.p1; omega).symm, fun b1 => ⟨fun h => (m.aU0 fun hv => by have := (hbd hv).bnd.l0; omega).symm, fun b2 => ⟨fun h => (m.aU0 fun hv => by have := (hbd hv).bnd.l1; omega).symm, fun b3 => ⟨fun h => (m.aU0 fun hv => by have := (hbd hv).bnd.z0; omega).symm, fun b4 => ⟨fun h => (m.aU0 fun hv => by have := (hbd hv).bnd.z1; omega).symm, fun b5 => ⟨fun h => (m.aU0 fun hv => by have := (hbd hv).bnd.s0; omega).symm, fun b6 => ⟨fun h => (m.aU0 fun hv => by have := (hbd hv).bnd.s1; omega).symm, fun b7 => ⟨fun h => (m.aU0 fun hv => by have := (hbd hv).bnd.c0; omega).symm, fun b8 => ⟨fun h => (m.aU0 fun hv => by have := (hbd hv).bnd.c1; omega).symm, fun b9 => ?_⟩⟩⟩⟩⟩⟩⟩⟩⟩⟩
  have hbn : f.bnd m := ⟨by omega, by omega, by omega, by omega, by omega, by omega, by omega, by omega, by omega, by omega⟩
  refine ap0 (fun j : Nat => f.code.length - j) (fun j => [(106, vI j), (105, vI f.code.length), (104, .lst (f.code.map Ins.cells)), (8, .bp (.l 8 0) 0), (7, vI i), (43, vI i), (42, vI m.funcs.length), (41, .lst (m.funcs.map Fnc.cells)), (2, .bp (.l 2 0) 0), (1, vI states)])
   (fun _ => [(.l 8 0, .box f.cells), (.l 2 0, .box [.lst (m.consts.map Val.cells), .lst (m.funcs.map Fnc.cells)])]) (m.IkI states i f) 0 ⟨Nat.zero_le _, by simp⟩ (Wk.subs (by simp) (by simp)) ?_
  rintro j hJ
  have hj := hJ.1
  simp +contextual (maxSteps := 2000000) (disch := omega) [-Int.not_lt, -Int.not_le, -Nat.not_lt, -Nat.not_le, sx]
  refine ⟨fun hjl => ?_, fun hjg => ?_⟩
  ·refine ab0 ?_; simp; refine aa0 (mK0 m states i f.code[j] hlt) (by simp) ?_
   rw [hfe]
   simp +contextual (maxSteps := 2000000) (disch := omega) [-Int.not_lt, -Int.not_le, -Nat.not_lt, -Nat.not_le, sx]
   refine ⟨fun hr => ?_, fun hr => (m.aU0 fun hv => by have := (hbd hv).ins _ (List.getElem_mem hjl); rw [hr] at this; cases this).symm⟩
   refine .of (j + 1) ⟨hjl, fun k hk1 hk2 => ?_⟩ (by omega) (Wk.subs (by simp) (by simp))
   by_cases e : k = j
   ·subst e; exact hr
   ·exact hJ.2 k hk1 (by omega)
  ·have hins : ∀ x ∈ f.code, m.fn0 states i f x = true := fun x hx => by
    obtain ⟨k, hk, rfl⟩ := List.getElem_of_mem hx
    exact hJ.2 k hk (by omega)
   have hs := lk0 m i hlt
   rw [hfe] at hs
   refine ab0 ?_; simp; refine aa0 (hs (by omega) (by omega) (by omega) (by omega) fun x hx => sx0 hlt (hins x hx) fun k hk hki => (hI.2 k hk hki).bnd) (by simp) ?_
   simp +contextual (maxSteps := 2000000) (disch := omega) [-Int.not_lt, -Int.not_le, -Nat.not_lt, -Nat.not_le, sx]
   refine ⟨fun hr => ?_, fun hr => (m.aU0 fun hv => by have := (hbd hv).hgt; rw [hr] at this; cases this).symm⟩
   refine .of (i + 1) ⟨hlt, fun k hk1 hk2 => ?_⟩ (by omega) (Wk.subs (by simp) (by simp))
   by_cases e : k = i
   ·subst e; rw [hfe]; exact ⟨hbn, hins, hr⟩
   ·exact hI.2 k hk1 (by omega)
 ·refine (m.oZ0 ⟨by omega, by omega, by omega, by omega, hct, fun n hn => hI.2 n hn (by omega)⟩).symm
abbrev eF0 (e : Int) : V := .ifc 62 (.agg [vI e])
theorem tk0 : Ret prog mS0 [vI 0] (.tup []) := by
 refine af0 oR0 (by simp) ?_
 simp +contextual (maxSteps := 2000000) (disch := omega) [-Int.not_lt, -Int.not_le, -Nat.not_lt, -Nat.not_le, sx, lj0]
theorem kd0 (e : Int) (he : e ≠ 0) : J prog mS0 [vI e] [] (· = .pan (eF0 e) []) := by
 refine af0 oR0 (by simp) ?_
 simp +contextual (maxSteps := 2000000) (disch := omega) [-Int.not_lt, -Int.not_le, -Nat.not_lt, -Nat.not_le, sx, lj0, he]
structure VmS where
 fn : Fnc
 loc : List Val
 stk : List Val
 junk : List Val
 at_ : Int
 m : Mdl
 sts : List Val
 fuel : Int
def VmS.obs (m : VmS) : List Ob :=
 [.box [.bp (.e 1) 0, vI m.fn.params, vI m.fn.locals, vI m.fn.zero, vI m.fn.stack, .lst (m.fn.code.map Ins.cells), .arr (.e 2) 0 m.loc.length, .arr (.e 3) 0 m.stk.length, vI m.at_],
  .box [.lst (m.m.consts.map Val.cells), .lst (m.m.funcs.map Fnc.cells), .arr (.e 4) 0 m.sts.length, vI m.fuel],
  .row ac0 4 true (m.loc.map Val.cells), .row ac0 4 true (m.stk.map Val.cells ++ m.junk.map Val.cells), .row ac0 4 true (m.sts.map Val.cells)]
def ag0 (m : Mdl) (sts : List Val) (fuel : Int) : List Ob :=
 [.box [.lst (m.consts.map Val.cells), .lst (m.funcs.map Fnc.cells), .arr (.e 1) 0 sts.length, vI fuel], .row ac0 4 true (sts.map Val.cells)]
theorem as0 (m : VmS) (s : List Val) (v : Val) (h : m.stk = s ++ [v]) (hl : m.stk.length < 2 ^ 40) :
  J prog jx0 [.bp (.e 0) 0] m.obs (· = .ret v.V { m with stk := s, junk := v :: m.junk }.obs) := by
 have hn : m.stk.length = s.length + 1 := by rw [h]; simp
 refine az0 m60 (by simp [VmS.obs]) ?_
 simp +contextual (maxSteps := 2000000) (disch := omega) [-Int.not_lt, -Int.not_le, -Nat.not_lt, -Nat.not_le, sx, ij0, VmS.obs, hpE]
 have e : ((m.stk ++ m.junk).map Val.cells)[m.stk.length - 1]? = some v.cells := by rw [h]; simp
 simp only [List.map_append] at e
 rw [fa0 e]
 simp +contextual (maxSteps := 2000000) (disch := omega) [-Int.not_lt, -Int.not_le, -Nat.not_lt, -Nat.not_le, sx]
 refine endR _ _ (Wk.refl _ _) [] (by simp) ?_
 simp +contextual (maxSteps := 2000000) (disch := omega) [-Int.not_lt, -Int.not_le, -Nat.not_lt, -Nat.not_le, sx, h]
def VmS.obs' (m : VmS) : List Ob :=
 [.box [.bp (.e 1) 0, vI m.fn.params, vI m.fn.locals, vI m.fn.zero, vI m.fn.stack, .lst (m.fn.code.map Ins.cells), .arr (.e 2) 0 m.loc.length, .arr (.e 5) 0 m.stk.length, vI m.at_],
  .box [.lst (m.m.consts.map Val.cells), .lst (m.m.funcs.map Fnc.cells), .arr (.e 4) 0 m.sts.length, vI m.fuel],
  .row ac0 4 true (m.loc.map Val.cells), .gone, .row ac0 4 true (m.sts.map Val.cells), .row ac0 4 true (m.stk.map Val.cells ++ m.junk.map Val.cells)]
theorem aC0 (m : VmS) (v : Val) (hl : m.stk.length < 2 ^ 40) :
  J prog fk0 [.bp (.e 0) 0, v.V, vI 0] m.obs (· = .ret (.tup []) { m with stk := m.stk ++ [v], junk := [] }.obs') := by
 refine az0 h90 (by simp [VmS.obs]) ?_
 simp +contextual (maxSteps := 2000000) (disch := omega) [-Int.not_lt, -Int.not_le, -Nat.not_lt, -Nat.not_le, sx, et0, VmS.obs, hpE]
 refine ab0 ?_; simp; refine aa0 (tk0) (by simp) ?_
 simp +contextual (maxSteps := 2000000) (disch := omega) [-Int.not_lt, -Int.not_le, -Nat.not_lt, -Nat.not_le, sx]
 have e : (List.take m.stk.length (m.stk.map Val.cells ++ m.junk.map Val.cells) ++ [(Val.mk 0 0 noS []).cells])[m.stk.length]? = some (Val.mk 0 0 noS []).cells := by
  rw [List.getElem?_append_right (by simp)]; simp
 rw [fa0 e]
 simp +contextual (maxSteps := 2000000) (disch := omega) [-Int.not_lt, -Int.not_le, -Nat.not_lt, -Nat.not_le, sx]
 have r : (List.take m.stk.length (m.stk.map Val.cells ++ m.junk.map Val.cells) ++ [(Val.mk 0 0 noS []).cells]).set m.stk.length v.cells = m.stk.map Val.cells ++ [v.cells] := by
  have h1 : m.stk.length <= (m.stk.map Val.cells).length := by simp
  have h2 : (m.stk.map Val.cells).length <= m.stk.length := by simp
  rw [List.take_append_of_le_length h1, List.take_of_length_le h2, List.set_append_right _ _ h2]; simp
 rw [r]
 refine endN _ _ (Wk.refl _ _) [.l 15 0] (by simp) ?_
 simp +contextual (maxSteps := 2000000) (disch := omega) [-Int.not_lt, -Int.not_le, -Nat.not_lt, -Nat.not_le, sx, VmS.obs']
theorem aZ0 (m : VmS) (v : Val) (e : Int) (he : e ≠ 0) :
  J prog fk0 [.bp (.e 0) 0, v.V, vI e] m.obs (· = .pan (eF0 e) m.obs) := by
 refine az0 h90 (by simp [VmS.obs]) ?_
 simp +contextual (maxSteps := 2000000) (disch := omega) [-Int.not_lt, -Int.not_le, -Nat.not_lt, -Nat.not_le, sx, et0, VmS.obs, hpE]
 refine ad0 [] rfl rfl (by simp) ?_
 simp
 refine bh0 (kd0 e he) ?_
 simp +contextual (maxSteps := 2000000) (disch := omega) [-Int.not_lt, -Int.not_le, -Nat.not_lt, -Nat.not_le, sx]
 refine endP ?_
 simp +contextual (maxSteps := 2000000) (disch := omega) [-Int.not_lt, -Int.not_le, -Nat.not_lt, -Nat.not_le, sx]
theorem cg0 (md : Mdl) (sts : List Val) (fuel n : Int) (hn : n <= fuel) (h0 : 0 <= n) (h1 : fuel < 2 ^ 40) :
  J prog dc0 [.bp (.e 0) 0, vI n] (ag0 md sts fuel) (· = .ret (.tup []) (ag0 md sts (fuel - n))) := by
 refine az0 eR0 (by simp [ag0]) ?_
 simp +contextual (maxSteps := 2000000) (disch := omega) [-Int.not_lt, -Int.not_le, -Nat.not_lt, -Nat.not_le, sx, cZ0, ag0, hpE]
 refine endN _ _ (Wk.refl _ _) [] (by simp) ?_
 simp +contextual (maxSteps := 2000000) (disch := omega) [-Int.not_lt, -Int.not_le, -Nat.not_lt, -Nat.not_le, sx]
theorem cM0 (md : Mdl) (sts : List Val) (fuel n : Int) (hn : fuel < n) :
  J prog dc0 [.bp (.e 0) 0, vI n] (ag0 md sts fuel) (· = .pan (eF0 54) (ag0 md sts 0)) := by
 refine az0 eR0 (by simp [ag0]) ?_
 simp +contextual (maxSteps := 2000000) (disch := omega) [-Int.not_lt, -Int.not_le, -Nat.not_lt, -Nat.not_le, sx, cZ0, ag0, hpE]
 refine ad0 [] rfl rfl (by simp) ?_
 simp
 refine bh0 (kd0 54 (by simp)) ?_
 simp +contextual (maxSteps := 2000000) (disch := omega) [-Int.not_lt, -Int.not_le, -Nat.not_lt, -Nat.not_le, sx]
 refine endP ?_
 simp +contextual (maxSteps := 2000000) (disch := omega) [-Int.not_lt, -Int.not_le, -Nat.not_lt, -Nat.not_le, sx]
theorem aE0 (m : VmS) (s : List Val) (a b : Val) (h : m.stk = s ++ [a, b]) (hl : m.stk.length < 2 ^ 40) :
  J prog jy0 [.bp (.e 0) 0] m.obs (· = .ret (.tup [a.V, b.V]) { m with stk := s, junk := a :: b :: m.junk }.obs) := by
 refine az0 m70 (by simp [VmS.obs]) ?_
 simp +contextual (maxSteps := 2000000) (disch := omega) [-Int.not_lt, -Int.not_le, -Nat.not_lt, -Nat.not_le, sx, ik0, VmS.obs, hpE]
 refine ad0 [.e 0, .e 1, .e 2, .e 3, .e 4] rfl rfl (by simp) ?_
 simp
 have hpO := as0 m (s ++ [a]) b (by simp [h]) hl
 try simp [VmS.obs, VmS.obs', ag0] at hpO
 refine ae0 6 hpO (by simp) ?_
 clear hpO
 simp +contextual (maxSteps := 2000000) (disch := omega) [-Int.not_lt, -Int.not_le, -Nat.not_lt, -Nat.not_le, sx]
 refine cr0 [.e 0, .e 1, .e 2, .e 3, .e 4] [.e 0, .e 1, .e 2, .e 3, .e 4] rfl rfl (by simp) ?_
 simp
 have hpO := as0 { m with stk := s ++ [a], junk := b :: m.junk } s a (by simp) (by simp [h] at hl ⊢; omega)
 try simp [VmS.obs, VmS.obs', ag0] at hpO
 refine ch0 8 hpO (by simp) ?_
 clear hpO
 simp +contextual (maxSteps := 2000000) (disch := omega) [-Int.not_lt, -Int.not_le, -Nat.not_lt, -Nat.not_le, sx]
 refine endR _ _ (Wk.refl _ _) [] (by simp) ?_
 simp +contextual (maxSteps := 2000000) (disch := omega) [-Int.not_lt, -Int.not_le, -Nat.not_lt, -Nat.not_le, sx]
theorem cV0 (m : VmS) (s : List Val) (v : Val) (h : m.stk = s ++ [v]) (hv : v.kind = 2) (hl : m.stk.length < 2 ^ 40) :
  J prog eC0 [.bp (.e 0) 0] m.obs (· = .ret (vB (decide (v.num = 1))) { m with stk := s, junk := v :: m.junk }.obs) := by
 refine az0 gX0 (by simp [VmS.obs]) ?_
 simp +contextual (maxSteps := 2000000) (disch := omega) [-Int.not_lt, -Int.not_le, -Nat.not_lt, -Nat.not_le, sx, dX0, VmS.obs, hpE]
 refine ad0 [.e 0, .e 1, .e 2, .e 3, .e 4] rfl rfl (by simp) ?_
 simp
 have hpO := as0 m s v h hl
 try simp [VmS.obs, VmS.obs', ag0] at hpO
 refine ae0 5 hpO (by simp) ?_
 clear hpO
 simp +contextual (maxSteps := 2000000) (disch := omega) [-Int.not_lt, -Int.not_le, -Nat.not_lt, -Nat.not_le, sx, hv]
 refine endR _ _ (Wk.refl _ _) [] (by simp) ?_
 simp +contextual (maxSteps := 2000000) (disch := omega) [-Int.not_lt, -Int.not_le, -Nat.not_lt, -Nat.not_le, sx]
 rfl
theorem gg0 (m : VmS) (s : List Val) (v : Val) (h : m.stk = s ++ [v]) (hv : v.kind ≠ 2) (hl : m.stk.length < 2 ^ 40) :
  J prog eC0 [.bp (.e 0) 0] m.obs (· = .pan (eF0 40) { m with stk := s, junk := v :: m.junk }.obs) := by
 refine az0 gX0 (by simp [VmS.obs]) ?_
 simp +contextual (maxSteps := 2000000) (disch := omega) [-Int.not_lt, -Int.not_le, -Nat.not_lt, -Nat.not_le, sx, dX0, VmS.obs, hpE]
 refine ad0 [.e 0, .e 1, .e 2, .e 3, .e 4] rfl rfl (by simp) ?_
 simp
 have hpO := as0 m s v h hl
 try simp [VmS.obs, VmS.obs', ag0] at hpO
 refine ae0 5 hpO (by simp) ?_
 clear hpO
 simp +contextual (maxSteps := 2000000) (disch := omega) [-Int.not_lt, -Int.not_le, -Nat.not_lt, -Nat.not_le, sx, hv]
 refine ad0 [] rfl rfl (by simp) ?_
 simp
 have hpO := kd0 40 (by simp)
 try simp [VmS.obs, VmS.obs', ag0] at hpO
 refine bh0 hpO ?_
 clear hpO
 simp +contextual (maxSteps := 2000000) (disch := omega) [-Int.not_lt, -Int.not_le, -Nat.not_lt, -Nat.not_le, sx]
 refine endP ?_
 simp +contextual (maxSteps := 2000000) (disch := omega) [-Int.not_lt, -Int.not_le, -Nat.not_lt, -Nat.not_le, sx]
theorem eG0 (m : VmS) (a : Int) (h : a < m.at_ -> 1 <= m.fuel) (h1 : m.fuel < 2 ^ 40) :
  J prog cJ0 [.bp (.e 0) 0, vI a] m.obs (· = .ret (.tup []) { m with at_ := a, fuel := if a < m.at_ then m.fuel - 1 else m.fuel }.obs) := by
 refine az0 h80 (by simp [VmS.obs]) ?_
 simp +contextual (maxSteps := 2000000) (disch := omega) [-Int.not_lt, -Int.not_le, -Nat.not_lt, -Nat.not_le, sx, es0, VmS.obs, hpE]
 refine ⟨fun hlt => ?_, fun hge => ?_⟩
 ·refine ad0 [.e 1, .e 4] rfl rfl (by simp) ?_
  simp
  have hpO := cg0 m.m m.sts m.fuel 1 (h hlt) (by simp) h1
  try simp [VmS.obs, VmS.obs', ag0] at hpO
  refine ae0 14 hpO (by simp) ?_
  clear hpO
  simp +contextual (maxSteps := 2000000) (disch := omega) [-Int.not_lt, -Int.not_le, -Nat.not_lt, -Nat.not_le, sx]
  refine endN _ _ (Wk.refl _ _) [] (by simp) ?_
  simp +contextual (maxSteps := 2000000) (disch := omega) [-Int.not_lt, -Int.not_le, -Nat.not_lt, -Nat.not_le, sx, hlt]
 ·refine endN _ _ (Wk.refl _ _) [] (by simp) ?_
  simp +contextual (maxSteps := 2000000) (disch := omega) [-Int.not_lt, -Int.not_le, -Nat.not_lt, -Nat.not_le, sx, hge]
theorem g60 (m : VmS) (a : Int) (hlt : a < m.at_) (h : m.fuel < 1) :
  J prog cJ0 [.bp (.e 0) 0, vI a] m.obs (· = .pan (eF0 54) { m with fuel := 0 }.obs) := by
 refine az0 h80 (by simp [VmS.obs]) ?_
 simp +contextual (maxSteps := 2000000) (disch := omega) [-Int.not_lt, -Int.not_le, -Nat.not_lt, -Nat.not_le, sx, es0, VmS.obs, hpE]
 refine ad0 [.e 1, .e 4] rfl rfl (by simp) ?_
 simp
 have hpO := cM0 m.m m.sts m.fuel 1 h
 try simp [VmS.obs, VmS.obs', ag0] at hpO
 refine bh0 hpO ?_
 clear hpO
 simp +contextual (maxSteps := 2000000) (disch := omega) [-Int.not_lt, -Int.not_le, -Nat.not_lt, -Nat.not_le, sx]
 refine endP ?_
 simp +contextual (maxSteps := 2000000) (disch := omega) [-Int.not_lt, -Int.not_le, -Nat.not_lt, -Nat.not_le, sx]
def VmS.push (m : VmS) (v : Val) : VmS := { m with stk := m.stk ++ [v], junk := [] }
theorem nw0 (m : VmS) (a : Int) (h0 : 0 <= a) (h : a.toNat < m.m.consts.length) (hl : m.stk.length < 2 ^ 40) :
  J prog is0 [.bp (.e 0) 0, vI a] m.obs (· = .ret (.tup []) (m.push (m.m.consts[a.toNat])).obs') := by
 refine az0 pu0 (by simp [VmS.obs]) ?_
 simp +contextual (maxSteps := 2000000) (disch := omega) [-Int.not_lt, -Int.not_le, -Nat.not_lt, -Nat.not_le, sx, kn0, VmS.obs, VmS.push, hpE]
 refine ad0 [.e 0, .e 1, .e 2, .e 3, .e 4] rfl rfl (by simp) ?_
 simp
 have hpO := aC0 m (m.m.consts[a.toNat]) hl
 try simp [VmS.obs, VmS.obs', ag0] at hpO
 refine ae0 16 hpO (by simp) ?_
 clear hpO
 simp +contextual (maxSteps := 2000000) (disch := omega) [-Int.not_lt, -Int.not_le, -Nat.not_lt, -Nat.not_le, sx]
 refine endN _ _ (Wk.refl _ _) [.l 16 0] (by simp) ?_
 simp +contextual (maxSteps := 2000000) (disch := omega) [-Int.not_lt, -Int.not_le, -Nat.not_lt, -Nat.not_le, sx, VmS.obs']
theorem nA0 (m : VmS) (a : Int) (h0 : 0 <= a) (h : a.toNat < m.loc.length) (hl : m.stk.length < 2 ^ 40) :
  J prog it0 [.bp (.e 0) 0, vI a] m.obs (· = .ret (.tup []) (m.push (m.loc[a.toNat])).obs') := by
 refine az0 pv0 (by simp [VmS.obs]) ?_
 simp +contextual (maxSteps := 2000000) (disch := omega) [-Int.not_lt, -Int.not_le, -Nat.not_lt, -Nat.not_le, sx, ko0, VmS.obs, VmS.push, hpE]
 refine ad0 [.e 0, .e 1, .e 2, .e 3, .e 4] rfl rfl (by simp) ?_
 simp
 have hpO := aC0 m (m.loc[a.toNat]) hl
 try simp [VmS.obs, VmS.obs', ag0] at hpO
 refine ae0 12 hpO (by simp) ?_
 clear hpO
 simp +contextual (maxSteps := 2000000) (disch := omega) [-Int.not_lt, -Int.not_le, -Nat.not_lt, -Nat.not_le, sx]
 refine endN _ _ (Wk.refl _ _) [.l 12 0] (by simp) ?_
 simp +contextual (maxSteps := 2000000) (disch := omega) [-Int.not_lt, -Int.not_le, -Nat.not_lt, -Nat.not_le, sx, VmS.obs']
theorem nC0 (m : VmS) (a : Int) (h0 : 0 <= a) (h : a.toNat < m.sts.length) (hl : m.stk.length < 2 ^ 40) :
  J prog iv0 [.bp (.e 0) 0, vI a] m.obs (· = .ret (.tup []) (m.push (m.sts[a.toNat])).obs') := by
 refine az0 px0 (by simp [VmS.obs]) ?_
 simp +contextual (maxSteps := 2000000) (disch := omega) [-Int.not_lt, -Int.not_le, -Nat.not_lt, -Nat.not_le, sx, kp0, VmS.obs, VmS.push, hpE]
 refine ad0 [.e 0, .e 1, .e 2, .e 3, .e 4] rfl rfl (by simp) ?_
 simp
 have hpO := aC0 m (m.sts[a.toNat]) hl
 try simp [VmS.obs, VmS.obs', ag0] at hpO
 refine ae0 15 hpO (by simp) ?_
 clear hpO
 simp +contextual (maxSteps := 2000000) (disch := omega) [-Int.not_lt, -Int.not_le, -Nat.not_lt, -Nat.not_le, sx]
 refine endN _ _ (Wk.refl _ _) [.l 15 0] (by simp) ?_
 simp +contextual (maxSteps := 2000000) (disch := omega) [-Int.not_lt, -Int.not_le, -Nat.not_lt, -Nat.not_le, sx, VmS.obs']
theorem nE0 (m : VmS) (a : Int) (s : List Val) (v : Val) (hs : m.stk = s ++ [v]) (hl : m.stk.length < 2 ^ 40) :
  J prog ix0 [.bp (.e 0) 0, vI a] m.obs (· = .ret (.tup []) { m with stk := s, junk := v :: m.junk }.obs) := by
 refine az0 pz0 (by simp [VmS.obs]) ?_
 simp +contextual (maxSteps := 2000000) (disch := omega) [-Int.not_lt, -Int.not_le, -Nat.not_lt, -Nat.not_le, sx, kq0, VmS.obs, hpE]
 refine ad0 [.e 0, .e 1, .e 2, .e 3, .e 4] rfl rfl (by simp) ?_
 simp
 have hpO := as0 m s v hs hl
 try simp [VmS.obs, VmS.obs', ag0] at hpO
 refine ae0 5 hpO (by simp) ?_
 clear hpO
 simp +contextual (maxSteps := 2000000) (disch := omega) [-Int.not_lt, -Int.not_le, -Nat.not_lt, -Nat.not_le, sx]
 refine endN _ _ (Wk.refl _ _) [] (by simp) ?_
 simp +contextual (maxSteps := 2000000) (disch := omega) [-Int.not_lt, -Int.not_le, -Nat.not_lt, -Nat.not_le, sx]
def VmS.jump (m : VmS) (a : Int) : VmS := { m with at_ := a, fuel := if a < m.at_ then m.fuel - 1 else m.fuel }
theorem p20 (m : VmS) (a : Int) (s : List Val) (v : Val) (hs : m.stk = s ++ [v]) (hv : v.kind = 2) (h1 : v.num = 1) (hl : m.stk.length < 2 ^ 40) :
  J prog dk0 [.bp (.e 0) 0, vI a] m.obs (· = .ret (.tup []) { m with stk := s, junk := v :: m.junk }.obs) := by
 refine az0 eV0 (by simp [VmS.obs]) ?_
 simp +contextual (maxSteps := 2000000) (disch := omega) [-Int.not_lt, -Int.not_le, -Nat.not_lt, -Nat.not_le, sx, dw0, VmS.obs, hpE]
 refine ad0 [.e 0, .e 1, .e 2, .e 3, .e 4] rfl rfl (by simp) ?_
 simp
 have hpO := cV0 m s v hs hv hl
 try simp [VmS.obs, VmS.obs', ag0] at hpO
 refine ae0 5 hpO (by simp) ?_
 clear hpO
 simp +contextual (maxSteps := 2000000) (disch := omega) [-Int.not_lt, -Int.not_le, -Nat.not_lt, -Nat.not_le, sx, h1]
 refine endN _ _ (Wk.refl _ _) [] (by simp) ?_
 simp +contextual (maxSteps := 2000000) (disch := omega) [-Int.not_lt, -Int.not_le, -Nat.not_lt, -Nat.not_le, sx]
theorem lf0 (m : VmS) (a : Int) (s : List Val) (v : Val) (hs : m.stk = s ++ [v]) (hv : v.kind = 2) (h1 : v.num ≠ 1) (hl : m.stk.length < 2 ^ 40) (h : a < m.at_ -> 1 <= m.fuel) (hf : m.fuel < 2 ^ 40) :
  J prog dk0 [.bp (.e 0) 0, vI a] m.obs (· = .ret (.tup []) ({ m with stk := s, junk := v :: m.junk }.jump a).obs) := by
 refine az0 eV0 (by simp [VmS.obs]) ?_
 simp +contextual (maxSteps := 2000000) (disch := omega) [-Int.not_lt, -Int.not_le, -Nat.not_lt, -Nat.not_le, sx, dw0, VmS.obs, VmS.jump, hpE]
 refine ad0 [.e 0, .e 1, .e 2, .e 3, .e 4] rfl rfl (by simp) ?_
 simp
 have hpO := cV0 m s v hs hv hl
 try simp [VmS.obs, VmS.obs', ag0] at hpO
 refine ae0 5 hpO (by simp) ?_
 clear hpO
 simp +contextual (maxSteps := 2000000) (disch := omega) [-Int.not_lt, -Int.not_le, -Nat.not_lt, -Nat.not_le, sx, h1]
 refine ad0 [.e 0, .e 1, .e 2, .e 3, .e 4] rfl rfl (by simp) ?_
 simp
 have hpO := eG0 { m with stk := s, junk := v :: m.junk } a h hf
 try simp [VmS.obs, VmS.obs', ag0] at hpO
 refine ae0 9 hpO (by simp) ?_
 clear hpO
 simp +contextual (maxSteps := 2000000) (disch := omega) [-Int.not_lt, -Int.not_le, -Nat.not_lt, -Nat.not_le, sx]
 refine endN _ _ (Wk.refl _ _) [] (by simp) ?_
 simp +contextual (maxSteps := 2000000) (disch := omega) [-Int.not_lt, -Int.not_le, -Nat.not_lt, -Nat.not_le, sx]
theorem og0 (m : VmS) (a : Int) (s : List Val) (v : Val) (hs : m.stk = s ++ [v]) (hv : v.kind = 2) (h1 : v.num ≠ 1) (hl : m.stk.length < 2 ^ 40) (hlt : a < m.at_) (hf : m.fuel < 1) :
  J prog dk0 [.bp (.e 0) 0, vI a] m.obs (· = .pan (eF0 54) { m with stk := s, junk := v :: m.junk, fuel := 0 }.obs) := by
 refine az0 eV0 (by simp [VmS.obs]) ?_
 simp +contextual (maxSteps := 2000000) (disch := omega) [-Int.not_lt, -Int.not_le, -Nat.not_lt, -Nat.not_le, sx, dw0, VmS.obs, hpE]
 refine ad0 [.e 0, .e 1, .e 2, .e 3, .e 4] rfl rfl (by simp) ?_
 simp
 have hpO := cV0 m s v hs hv hl
 try simp [VmS.obs, VmS.obs', ag0] at hpO
 refine ae0 5 hpO (by simp) ?_
 clear hpO
 simp +contextual (maxSteps := 2000000) (disch := omega) [-Int.not_lt, -Int.not_le, -Nat.not_lt, -Nat.not_le, sx, h1]
 refine ad0 [.e 0, .e 1, .e 2, .e 3, .e 4] rfl rfl (by simp) ?_
 simp
 have hpO := g60 { m with stk := s, junk := v :: m.junk } a hlt hf
 try simp [VmS.obs, VmS.obs', ag0] at hpO
 refine bh0 hpO ?_
 clear hpO
 simp +contextual (maxSteps := 2000000) (disch := omega) [-Int.not_lt, -Int.not_le, -Nat.not_lt, -Nat.not_le, sx]
 refine endP ?_
 simp +contextual (maxSteps := 2000000) (disch := omega) [-Int.not_lt, -Int.not_le, -Nat.not_lt, -Nat.not_le, sx]
theorem of0 (m : VmS) (a : Int) (s : List Val) (v : Val) (hs : m.stk = s ++ [v]) (hv : v.kind ≠ 2) (hl : m.stk.length < 2 ^ 40) :
  J prog dk0 [.bp (.e 0) 0, vI a] m.obs (· = .pan (eF0 40) { m with stk := s, junk := v :: m.junk }.obs) := by
 refine az0 eV0 (by simp [VmS.obs]) ?_
 simp +contextual (maxSteps := 2000000) (disch := omega) [-Int.not_lt, -Int.not_le, -Nat.not_lt, -Nat.not_le, sx, dw0, VmS.obs, hpE]
 refine ad0 [.e 0, .e 1, .e 2, .e 3, .e 4] rfl rfl (by simp) ?_
 simp
 have hpO := gg0 m s v hs hv hl
 try simp [VmS.obs, VmS.obs', ag0] at hpO
 refine bh0 hpO ?_
 clear hpO
 simp +contextual (maxSteps := 2000000) (disch := omega) [-Int.not_lt, -Int.not_le, -Nat.not_lt, -Nat.not_le, sx]
 refine endP ?_
 simp +contextual (maxSteps := 2000000) (disch := omega) [-Int.not_lt, -Int.not_le, -Nat.not_lt, -Nat.not_le, sx]
theorem p30 (m : VmS) (a : Int) (h0 : 0 <= a) (h : a <= m.fuel) (hf : m.fuel < 2 ^ 40) :
  J prog fZ0 [.bp (.e 0) 0, vI a] m.obs (· = .ret (.tup []) { m with fuel := m.fuel - a }.obs) := by
 refine az0 kN0 (by simp [VmS.obs]) ?_
 simp +contextual (maxSteps := 2000000) (disch := omega) [-Int.not_lt, -Int.not_le, -Nat.not_lt, -Nat.not_le, sx, ht0, VmS.obs, hpE]
 refine ad0 [.e 1, .e 4] rfl rfl (by simp) ?_
 simp
 have hpO := cg0 m.m m.sts m.fuel a h h0 hf
 try simp [VmS.obs, VmS.obs', ag0] at hpO
 refine ae0 9 hpO (by simp) ?_
 clear hpO
 simp +contextual (maxSteps := 2000000) (disch := omega) [-Int.not_lt, -Int.not_le, -Nat.not_lt, -Nat.not_le, sx]
 refine endN _ _ (Wk.refl _ _) [] (by simp) ?_
 simp +contextual (maxSteps := 2000000) (disch := omega) [-Int.not_lt, -Int.not_le, -Nat.not_lt, -Nat.not_le, sx]
theorem oh0 (m : VmS) (a : Int) (h : m.fuel < a) :
  J prog fZ0 [.bp (.e 0) 0, vI a] m.obs (· = .pan (eF0 54) { m with fuel := 0 }.obs) := by
 refine az0 kN0 (by simp [VmS.obs]) ?_
 simp +contextual (maxSteps := 2000000) (disch := omega) [-Int.not_lt, -Int.not_le, -Nat.not_lt, -Nat.not_le, sx, ht0, VmS.obs, hpE]
 refine ad0 [.e 1, .e 4] rfl rfl (by simp) ?_
 simp
 have hpO := cM0 m.m m.sts m.fuel a h
 try simp [VmS.obs, VmS.obs', ag0] at hpO
 refine bh0 hpO ?_
 clear hpO
 simp +contextual (maxSteps := 2000000) (disch := omega) [-Int.not_lt, -Int.not_le, -Nat.not_lt, -Nat.not_le, sx]
 refine endP ?_
 simp +contextual (maxSteps := 2000000) (disch := omega) [-Int.not_lt, -Int.not_le, -Nat.not_lt, -Nat.not_le, sx]
theorem ou0 (m : VmS) (a : Int) (s : List Val) (v : Val) (hs : m.stk = s ++ [v]) (hl : m.stk.length < 2 ^ 40) (r : Val) (e : Int) (hF : Ret prog kt0 [v.V] (.tup [r.V, vI e])) (he : e = 0) :
  J prog dA0 [.bp (.e 0) 0, vI a] m.obs (· = .ret (.tup []) (({ m with stk := s, junk := v :: m.junk } : VmS).push r).obs') := by
 have hl2 : s.length < 2 ^ 40 := by rw [hs] at hl; simp at hl; omega
 subst he
 refine az0 jz0 (by simp [VmS.obs]) ?_
 simp +contextual (maxSteps := 2000000) (disch := omega) [-Int.not_lt, -Int.not_le, -Nat.not_lt, -Nat.not_le, sx, gi0, VmS.obs, VmS.push, hpE]
 refine ad0 [.e 0, .e 1, .e 2, .e 3, .e 4] rfl rfl (by simp) ?_
 simp
 have hpO := as0 m s v hs hl
 try simp [VmS.obs, VmS.obs', ag0] at hpO
 refine ae0 6 hpO (by simp) ?_
 clear hpO
 simp +contextual (maxSteps := 2000000) (disch := omega) [-Int.not_lt, -Int.not_le, -Nat.not_lt, -Nat.not_le, sx]
 refine ab0 ?_; simp; refine aa0 (hF) (by simp) ?_
 simp +contextual (maxSteps := 2000000) (disch := omega) [-Int.not_lt, -Int.not_le, -Nat.not_lt, -Nat.not_le, sx]
 refine ad0 [.e 0, .e 1, .e 2, .e 3, .e 4] rfl rfl (by simp) ?_
 simp
 have hpO := aC0 { m with stk := s, junk := v :: m.junk } r hl2
 try simp [VmS.obs, VmS.obs', ag0] at hpO
 refine ae0 10 hpO (by simp) ?_
 clear hpO
 simp +contextual (maxSteps := 2000000) (disch := omega) [-Int.not_lt, -Int.not_le, -Nat.not_lt, -Nat.not_le, sx]
 refine endN _ _ (Wk.refl _ _) [.l 10 0] (by simp) ?_
 simp +contextual (maxSteps := 2000000) (disch := omega) [-Int.not_lt, -Int.not_le, -Nat.not_lt, -Nat.not_le, sx, VmS.obs']
theorem nF0 (m : VmS) (a : Int) (s : List Val) (v : Val) (hs : m.stk = s ++ [v]) (hl : m.stk.length < 2 ^ 40) (r : Val) (e : Int) (hF : Ret prog kt0 [v.V] (.tup [r.V, vI e])) (he : e ≠ 0) :
  J prog dA0 [.bp (.e 0) 0, vI a] m.obs (· = .pan (eF0 e) { m with stk := s, junk := v :: m.junk }.obs) := by
 have hl2 : s.length < 2 ^ 40 := by rw [hs] at hl; simp at hl; omega
 refine az0 jz0 (by simp [VmS.obs]) ?_
 simp +contextual (maxSteps := 2000000) (disch := omega) [-Int.not_lt, -Int.not_le, -Nat.not_lt, -Nat.not_le, sx, gi0, VmS.obs, VmS.push, hpE]
 refine ad0 [.e 0, .e 1, .e 2, .e 3, .e 4] rfl rfl (by simp) ?_
 simp
 have hpO := as0 m s v hs hl
 try simp [VmS.obs, VmS.obs', ag0] at hpO
 refine ae0 6 hpO (by simp) ?_
 clear hpO
 simp +contextual (maxSteps := 2000000) (disch := omega) [-Int.not_lt, -Int.not_le, -Nat.not_lt, -Nat.not_le, sx]
 refine ab0 ?_; simp; refine aa0 (hF) (by simp) ?_
 simp +contextual (maxSteps := 2000000) (disch := omega) [-Int.not_lt, -Int.not_le, -Nat.not_lt, -Nat.not_le, sx]
 refine ad0 [.e 0, .e 1, .e 2, .e 3, .e 4] rfl rfl (by simp) ?_
 simp
 have hpO := aZ0 { m with stk := s, junk := v :: m.junk } r e he
 try simp [VmS.obs, VmS.obs', ag0] at hpO
 refine bh0 hpO ?_
 clear hpO
 simp +contextual (maxSteps := 2000000) (disch := omega) [-Int.not_lt, -Int.not_le, -Nat.not_lt, -Nat.not_le, sx]
 refine endP ?_
 simp +contextual (maxSteps := 2000000) (disch := omega) [-Int.not_lt, -Int.not_le, -Nat.not_lt, -Nat.not_le, sx]
theorem oy0 (m : VmS) (a : Int) (s : List Val) (v : Val) (hs : m.stk = s ++ [v]) (hl : m.stk.length < 2 ^ 40) (r : Int) (e : Int) (hF : Ret prog hF0 [v.V] (.tup [vI r, vI e])) (he : e = 0) :
  J prog dC0 [.bp (.e 0) 0, vI a] m.obs (· = .ret (.tup []) (({ m with stk := s, junk := v :: m.junk } : VmS).push (Val.int r)).obs') := by
 have hl2 : s.length < 2 ^ 40 := by rw [hs] at hl; simp at hl; omega
 subst he
 refine az0 jB0 (by simp [VmS.obs]) ?_
 simp +contextual (maxSteps := 2000000) (disch := omega) [-Int.not_lt, -Int.not_le, -Nat.not_lt, -Nat.not_le, sx, gk0, VmS.obs, VmS.push, hpE]
 refine ad0 [.e 0, .e 1, .e 2, .e 3, .e 4] rfl rfl (by simp) ?_
 simp
 have hpO := as0 m s v hs hl
 try simp [VmS.obs, VmS.obs', ag0] at hpO
 refine ae0 8 hpO (by simp) ?_
 clear hpO
 simp +contextual (maxSteps := 2000000) (disch := omega) [-Int.not_lt, -Int.not_le, -Nat.not_lt, -Nat.not_le, sx]
 refine ab0 ?_; simp; refine aa0 (hF) (by simp) ?_
 simp +contextual (maxSteps := 2000000) (disch := omega) [-Int.not_lt, -Int.not_le, -Nat.not_lt, -Nat.not_le, sx]
 refine ab0 ?_; simp; refine aa0 (cy0 r) (by simp) ?_
 simp +contextual (maxSteps := 2000000) (disch := omega) [-Int.not_lt, -Int.not_le, -Nat.not_lt, -Nat.not_le, sx]
 refine ad0 [.e 0, .e 1, .e 2, .e 3, .e 4] rfl rfl (by simp) ?_
 simp
 have hpO := aC0 { m with stk := s, junk := v :: m.junk } (Val.int r) hl2
 try simp [VmS.obs, VmS.obs', ag0] at hpO
 refine ae0 16 hpO (by simp) ?_
 clear hpO
 simp +contextual (maxSteps := 2000000) (disch := omega) [-Int.not_lt, -Int.not_le, -Nat.not_lt, -Nat.not_le, sx]
 refine endN _ _ (Wk.refl _ _) [.l 16 0] (by simp) ?_
 simp +contextual (maxSteps := 2000000) (disch := omega) [-Int.not_lt, -Int.not_le, -Nat.not_lt, -Nat.not_le, sx, VmS.obs']
theorem nH0 (m : VmS) (a : Int) (s : List Val) (v : Val) (hs : m.stk = s ++ [v]) (hl : m.stk.length < 2 ^ 40) (r : Int) (e : Int) (hF : Ret prog hF0 [v.V] (.tup [vI r, vI e])) (he : e ≠ 0) :
  J prog dC0 [.bp (.e 0) 0, vI a] m.obs (· = .pan (eF0 e) { m with stk := s, junk := v :: m.junk }.obs) := by
 have hl2 : s.length < 2 ^ 40 := by rw [hs] at hl; simp at hl; omega
 refine az0 jB0 (by simp [VmS.obs]) ?_
 simp +contextual (maxSteps := 2000000) (disch := omega) [-Int.not_lt, -Int.not_le, -Nat.not_lt, -Nat.not_le, sx, gk0, VmS.obs, VmS.push, hpE]
 refine ad0 [.e 0, .e 1, .e 2, .e 3, .e 4] rfl rfl (by simp) ?_
 simp
 have hpO := as0 m s v hs hl
 try simp [VmS.obs, VmS.obs', ag0] at hpO
 refine ae0 8 hpO (by simp) ?_
 clear hpO
 simp +contextual (maxSteps := 2000000) (disch := omega) [-Int.not_lt, -Int.not_le, -Nat.not_lt, -Nat.not_le, sx]
 refine ab0 ?_; simp; refine aa0 (hF) (by simp) ?_
 simp +contextual (maxSteps := 2000000) (disch := omega) [-Int.not_lt, -Int.not_le, -Nat.not_lt, -Nat.not_le, sx]
 refine ab0 ?_; simp; refine aa0 (cy0 r) (by simp) ?_
 simp +contextual (maxSteps := 2000000) (disch := omega) [-Int.not_lt, -Int.not_le, -Nat.not_lt, -Nat.not_le, sx]
 refine ad0 [.e 0, .e 1, .e 2, .e 3, .e 4] rfl rfl (by simp) ?_
 simp
 have hpO := aZ0 { m with stk := s, junk := v :: m.junk } (Val.int r) e he
 try simp [VmS.obs, VmS.obs', ag0] at hpO
 refine bh0 hpO ?_
 clear hpO
 simp +contextual (maxSteps := 2000000) (disch := omega) [-Int.not_lt, -Int.not_le, -Nat.not_lt, -Nat.not_le, sx]
 refine endP ?_
 simp +contextual (maxSteps := 2000000) (disch := omega) [-Int.not_lt, -Int.not_le, -Nat.not_lt, -Nat.not_le, sx]
theorem oA0 (m : VmS) (a : Int) (s : List Val) (v : Val) (hs : m.stk = s ++ [v]) (hl : m.stk.length < 2 ^ 40) (r : Val) (e : Int) (hF : Ret prog ku0 [v.V] (.tup [r.V, vI e])) (he : e = 0) :
  J prog dD0 [.bp (.e 0) 0, vI a] m.obs (· = .ret (.tup []) (({ m with stk := s, junk := v :: m.junk } : VmS).push r).obs') := by
 have hl2 : s.length < 2 ^ 40 := by rw [hs] at hl; simp at hl; omega
 subst he
 refine az0 jC0 (by simp [VmS.obs]) ?_
 simp +contextual (maxSteps := 2000000) (disch := omega) [-Int.not_lt, -Int.not_le, -Nat.not_lt, -Nat.not_le, sx, gl0, VmS.obs, VmS.push, hpE]
 refine ad0 [.e 0, .e 1, .e 2, .e 3, .e 4] rfl rfl (by simp) ?_
 simp
 have hpO := as0 m s v hs hl
 try simp [VmS.obs, VmS.obs', ag0] at hpO
 refine ae0 6 hpO (by simp) ?_
 clear hpO
 simp +contextual (maxSteps := 2000000) (disch := omega) [-Int.not_lt, -Int.not_le, -Nat.not_lt, -Nat.not_le, sx]
 refine ab0 ?_; simp; refine aa0 (hF) (by simp) ?_
 simp +contextual (maxSteps := 2000000) (disch := omega) [-Int.not_lt, -Int.not_le, -Nat.not_lt, -Nat.not_le, sx]
 refine ad0 [.e 0, .e 1, .e 2, .e 3, .e 4] rfl rfl (by simp) ?_
 simp
 have hpO := aC0 { m with stk := s, junk := v :: m.junk } r hl2
 try simp [VmS.obs, VmS.obs', ag0] at hpO
 refine ae0 10 hpO (by simp) ?_
 clear hpO
 simp +contextual (maxSteps := 2000000) (disch := omega) [-Int.not_lt, -Int.not_le, -Nat.not_lt, -Nat.not_le, sx]
 refine endN _ _ (Wk.refl _ _) [.l 10 0] (by simp) ?_
 simp +contextual (maxSteps := 2000000) (disch := omega) [-Int.not_lt, -Int.not_le, -Nat.not_lt, -Nat.not_le, sx, VmS.obs']
theorem nI0 (m : VmS) (a : Int) (s : List Val) (v : Val) (hs : m.stk = s ++ [v]) (hl : m.stk.length < 2 ^ 40) (r : Val) (e : Int) (hF : Ret prog ku0 [v.V] (.tup [r.V, vI e])) (he : e ≠ 0) :
  J prog dD0 [.bp (.e 0) 0, vI a] m.obs (· = .pan (eF0 e) { m with stk := s, junk := v :: m.junk }.obs) := by
 have hl2 : s.length < 2 ^ 40 := by rw [hs] at hl; simp at hl; omega
 refine az0 jC0 (by simp [VmS.obs]) ?_
 simp +contextual (maxSteps := 2000000) (disch := omega) [-Int.not_lt, -Int.not_le, -Nat.not_lt, -Nat.not_le, sx, gl0, VmS.obs, VmS.push, hpE]
 refine ad0 [.e 0, .e 1, .e 2, .e 3, .e 4] rfl rfl (by simp) ?_
 simp
 have hpO := as0 m s v hs hl
 try simp [VmS.obs, VmS.obs', ag0] at hpO
 refine ae0 6 hpO (by simp) ?_
 clear hpO
 simp +contextual (maxSteps := 2000000) (disch := omega) [-Int.not_lt, -Int.not_le, -Nat.not_lt, -Nat.not_le, sx]
 refine ab0 ?_; simp; refine aa0 (hF) (by simp) ?_
 simp +contextual (maxSteps := 2000000) (disch := omega) [-Int.not_lt, -Int.not_le, -Nat.not_lt, -Nat.not_le, sx]
 refine ad0 [.e 0, .e 1, .e 2, .e 3, .e 4] rfl rfl (by simp) ?_
 simp
 have hpO := aZ0 { m with stk := s, junk := v :: m.junk } r e he
 try simp [VmS.obs, VmS.obs', ag0] at hpO
 refine bh0 hpO ?_
 clear hpO
 simp +contextual (maxSteps := 2000000) (disch := omega) [-Int.not_lt, -Int.not_le, -Nat.not_lt, -Nat.not_le, sx]
 refine endP ?_
 simp +contextual (maxSteps := 2000000) (disch := omega) [-Int.not_lt, -Int.not_le, -Nat.not_lt, -Nat.not_le, sx]
theorem oC0 (m : VmS) (a : Int) (s : List Val) (x : Val) (y : Val) (hs : m.stk = s ++ [x, y]) (hl : m.stk.length < 2 ^ 40) (r : Bool) (e : Int) (hF : Ret prog hE0 [x.V, y.V] (.tup [vB r, vI e])) (he : e = 0) :
  J prog dE0 [.bp (.e 0) 0, vI a] m.obs (· = .ret (.tup []) (({ m with stk := s, junk := x :: y :: m.junk } : VmS).push (Val.bool r)).obs') := by
 have hl2 : s.length < 2 ^ 40 := by rw [hs] at hl; simp at hl; omega
 subst he
 refine az0 jD0 (by simp [VmS.obs]) ?_
 simp +contextual (maxSteps := 2000000) (disch := omega) [-Int.not_lt, -Int.not_le, -Nat.not_lt, -Nat.not_le, sx, gm0, VmS.obs, VmS.push, hpE]
 refine ad0 [.e 0, .e 1, .e 2, .e 3, .e 4] rfl rfl (by simp) ?_
 simp
 have hpO := aE0 m s x y hs hl
 try simp [VmS.obs, VmS.obs', ag0] at hpO
 refine ae0 8 hpO (by simp) ?_
 clear hpO
 simp +contextual (maxSteps := 2000000) (disch := omega) [-Int.not_lt, -Int.not_le, -Nat.not_lt, -Nat.not_le, sx]
 refine ab0 ?_; simp; refine aa0 (hF) (by simp) ?_
 simp +contextual (maxSteps := 2000000) (disch := omega) [-Int.not_lt, -Int.not_le, -Nat.not_lt, -Nat.not_le, sx]
 refine ab0 ?_; simp; refine aa0 (ck0 r) (by simp) ?_
 simp +contextual (maxSteps := 2000000) (disch := omega) [-Int.not_lt, -Int.not_le, -Nat.not_lt, -Nat.not_le, sx]
 refine ad0 [.e 0, .e 1, .e 2, .e 3, .e 4] rfl rfl (by simp) ?_
 simp
 have hpO := aC0 { m with stk := s, junk := x :: y :: m.junk } (Val.bool r) hl2
 try simp [VmS.obs, VmS.obs', ag0] at hpO
 refine ae0 18 hpO (by simp) ?_
 clear hpO
 simp +contextual (maxSteps := 2000000) (disch := omega) [-Int.not_lt, -Int.not_le, -Nat.not_lt, -Nat.not_le, sx]
 refine endN _ _ (Wk.refl _ _) [.l 18 0] (by simp) ?_
 simp +contextual (maxSteps := 2000000) (disch := omega) [-Int.not_lt, -Int.not_le, -Nat.not_lt, -Nat.not_le, sx, VmS.obs']
theorem nJ0 (m : VmS) (a : Int) (s : List Val) (x : Val) (y : Val) (hs : m.stk = s ++ [x, y]) (hl : m.stk.length < 2 ^ 40) (r : Bool) (e : Int) (hF : Ret prog hE0 [x.V, y.V] (.tup [vB r, vI e])) (he : e ≠ 0) :
  J prog dE0 [.bp (.e 0) 0, vI a] m.obs (· = .pan (eF0 e) { m with stk := s, junk := x :: y :: m.junk }.obs) := by
 have hl2 : s.length < 2 ^ 40 := by rw [hs] at hl; simp at hl; omega
 refine az0 jD0 (by simp [VmS.obs]) ?_
 simp +contextual (maxSteps := 2000000) (disch := omega) [-Int.not_lt, -Int.not_le, -Nat.not_lt, -Nat.not_le, sx, gm0, VmS.obs, VmS.push, hpE]
 refine ad0 [.e 0, .e 1, .e 2, .e 3, .e 4] rfl rfl (by simp) ?_
 simp
 have hpO := aE0 m s x y hs hl
 try simp [VmS.obs, VmS.obs', ag0] at hpO
 refine ae0 8 hpO (by simp) ?_
 clear hpO
 simp +contextual (maxSteps := 2000000) (disch := omega) [-Int.not_lt, -Int.not_le, -Nat.not_lt, -Nat.not_le, sx]
 refine ab0 ?_; simp; refine aa0 (hF) (by simp) ?_
 simp +contextual (maxSteps := 2000000) (disch := omega) [-Int.not_lt, -Int.not_le, -Nat.not_lt, -Nat.not_le, sx]
 refine ab0 ?_; simp; refine aa0 (ck0 r) (by simp) ?_
 simp +contextual (maxSteps := 2000000) (disch := omega) [-Int.not_lt, -Int.not_le, -Nat.not_lt, -Nat.not_le, sx]
 refine ad0 [.e 0, .e 1, .e 2, .e 3, .e 4] rfl rfl (by simp) ?_
 simp
 have hpO := aZ0 { m with stk := s, junk := x :: y :: m.junk } (Val.bool r) e he
 try simp [VmS.obs, VmS.obs', ag0] at hpO
 refine bh0 hpO ?_
 clear hpO
 simp +contextual (maxSteps := 2000000) (disch := omega) [-Int.not_lt, -Int.not_le, -Nat.not_lt, -Nat.not_le, sx]
 refine endP ?_
 simp +contextual (maxSteps := 2000000) (disch := omega) [-Int.not_lt, -Int.not_le, -Nat.not_lt, -Nat.not_le, sx]
theorem oE0 (m : VmS) (a : Int) (s : List Val) (x : Val) (y : Val) (hs : m.stk = s ++ [x, y]) (hl : m.stk.length < 2 ^ 40) (r : Val) (e : Int) (hF : Ret prog iY0 [x.V, y.V] (.tup [r.V, vI e])) (he : e = 0) :
  J prog dF0 [.bp (.e 0) 0, vI a] m.obs (· = .ret (.tup []) (({ m with stk := s, junk := x :: y :: m.junk } : VmS).push r).obs') := by
 have hl2 : s.length < 2 ^ 40 := by rw [hs] at hl; simp at hl; omega
 subst he
 refine az0 jE0 (by simp [VmS.obs]) ?_
 simp +contextual (maxSteps := 2000000) (disch := omega) [-Int.not_lt, -Int.not_le, -Nat.not_lt, -Nat.not_le, sx, gn0, VmS.obs, VmS.push, hpE]
 refine ad0 [.e 0, .e 1, .e 2, .e 3, .e 4] rfl rfl (by simp) ?_
 simp
 have hpO := aE0 m s x y hs hl
 try simp [VmS.obs, VmS.obs', ag0] at hpO
 refine ae0 6 hpO (by simp) ?_
 clear hpO
 simp +contextual (maxSteps := 2000000) (disch := omega) [-Int.not_lt, -Int.not_le, -Nat.not_lt, -Nat.not_le, sx]
 refine ab0 ?_; simp; refine aa0 (hF) (by simp) ?_
 simp +contextual (maxSteps := 2000000) (disch := omega) [-Int.not_lt, -Int.not_le, -Nat.not_lt, -Nat.not_le, sx]
 refine ad0 [.e 0, .e 1, .e 2, .e 3, .e 4] rfl rfl (by simp) ?_
 simp
 have hpO := aC0 { m with stk := s, junk := x :: y :: m.junk } r hl2
 try simp [VmS.obs, VmS.obs', ag0] at hpO
 refine ae0 12 hpO (by simp) ?_
 clear hpO
 simp +contextual (maxSteps := 2000000) (disch := omega) [-Int.not_lt, -Int.not_le, -Nat.not_lt, -Nat.not_le, sx]
 refine endN _ _ (Wk.refl _ _) [.l 12 0] (by simp) ?_
 simp +contextual (maxSteps := 2000000) (disch := omega) [-Int.not_lt, -Int.not_le, -Nat.not_lt, -Nat.not_le, sx, VmS.obs']
theorem nK0 (m : VmS) (a : Int) (s : List Val) (x : Val) (y : Val) (hs : m.stk = s ++ [x, y]) (hl : m.stk.length < 2 ^ 40) (r : Val) (e : Int) (hF : Ret prog iY0 [x.V, y.V] (.tup [r.V, vI e])) (he : e ≠ 0) :
  J prog dF0 [.bp (.e 0) 0, vI a] m.obs (· = .pan (eF0 e) { m with stk := s, junk := x :: y :: m.junk }.obs) := by
 have hl2 : s.length < 2 ^ 40 := by rw [hs] at hl; simp at hl; omega
 refine az0 jE0 (by simp [VmS.obs]) ?_
 simp +contextual (maxSteps := 2000000) (disch := omega) [-Int.not_lt, -Int.not_le, -Nat.not_lt, -Nat.not_le, sx, gn0, VmS.obs, VmS.push, hpE]
 refine ad0 [.e 0, .e 1, .e 2, .e 3, .e 4] rfl rfl (by simp) ?_
 simp
 have hpO := aE0 m s x y hs hl
 try simp [VmS.obs, VmS.obs', ag0] at hpO
 refine ae0 6 hpO (by simp) ?_
 clear hpO
 simp +contextual (maxSteps := 2000000) (disch := omega) [-Int.not_lt, -Int.not_le, -Nat.not_lt, -Nat.not_le, sx]
 refine ab0 ?_; simp; refine aa0 (hF) (by simp) ?_
 simp +contextual (maxSteps := 2000000) (disch := omega) [-Int.not_lt, -Int.not_le, -Nat.not_lt, -Nat.not_le, sx]
 refine ad0 [.e 0, .e 1, .e 2, .e 3, .e 4] rfl rfl (by simp) ?_
 simp
 have hpO := aZ0 { m with stk := s, junk := x :: y :: m.junk } r e he
 try simp [VmS.obs, VmS.obs', ag0] at hpO
 refine bh0 hpO ?_
 clear hpO
 simp +contextual (maxSteps := 2000000) (disch := omega) [-Int.not_lt, -Int.not_le, -Nat.not_lt, -Nat.not_le, sx]
 refine endP ?_
 simp +contextual (maxSteps := 2000000) (disch := omega) [-Int.not_lt, -Int.not_le, -Nat.not_lt, -Nat.not_le, sx]
theorem oG0 (m : VmS) (a : Int) (s : List Val) (x : Val) (y : Val) (hs : m.stk = s ++ [x, y]) (hl : m.stk.length < 2 ^ 40) (r : Val) (e : Int) (hF : Ret prog fY0 [x.V, y.V] (.tup [r.V, vI e])) (he : e = 0) :
  J prog dG0 [.bp (.e 0) 0, vI a] m.obs (· = .ret (.tup []) (({ m with stk := s, junk := x :: y :: m.junk } : VmS).push r).obs') := by
 have hl2 : s.length < 2 ^ 40 := by rw [hs] at hl; simp at hl; omega
 subst he
 refine az0 jF0 (by simp [VmS.obs]) ?_
 simp +contextual (maxSteps := 2000000) (disch := omega) [-Int.not_lt, -Int.not_le, -Nat.not_lt, -Nat.not_le, sx, go0, VmS.obs, VmS.push, hpE]
 refine ad0 [.e 0, .e 1, .e 2, .e 3, .e 4] rfl rfl (by simp) ?_
 simp
 have hpO := aE0 m s x y hs hl
 try simp [VmS.obs, VmS.obs', ag0] at hpO
 refine ae0 6 hpO (by simp) ?_
 clear hpO
 simp +contextual (maxSteps := 2000000) (disch := omega) [-Int.not_lt, -Int.not_le, -Nat.not_lt, -Nat.not_le, sx]
 refine ab0 ?_; simp; refine aa0 (hF) (by simp) ?_
 simp +contextual (maxSteps := 2000000) (disch := omega) [-Int.not_lt, -Int.not_le, -Nat.not_lt, -Nat.not_le, sx]
 refine ad0 [.e 0, .e 1, .e 2, .e 3, .e 4] rfl rfl (by simp) ?_
 simp
 have hpO := aC0 { m with stk := s, junk := x :: y :: m.junk } r hl2
 try simp [VmS.obs, VmS.obs', ag0] at hpO
 refine ae0 12 hpO (by simp) ?_
 clear hpO
 simp +contextual (maxSteps := 2000000) (disch := omega) [-Int.not_lt, -Int.not_le, -Nat.not_lt, -Nat.not_le, sx]
 refine endN _ _ (Wk.refl _ _) [.l 12 0] (by simp) ?_
 simp +contextual (maxSteps := 2000000) (disch := omega) [-Int.not_lt, -Int.not_le, -Nat.not_lt, -Nat.not_le, sx, VmS.obs']
theorem nL0 (m : VmS) (a : Int) (s : List Val) (x : Val) (y : Val) (hs : m.stk = s ++ [x, y]) (hl : m.stk.length < 2 ^ 40) (r : Val) (e : Int) (hF : Ret prog fY0 [x.V, y.V] (.tup [r.V, vI e])) (he : e ≠ 0) :
  J prog dG0 [.bp (.e 0) 0, vI a] m.obs (· = .pan (eF0 e) { m with stk := s, junk := x :: y :: m.junk }.obs) := by
 have hl2 : s.length < 2 ^ 40 := by rw [hs] at hl; simp at hl; omega
 refine az0 jF0 (by simp [VmS.obs]) ?_
 simp +contextual (maxSteps := 2000000) (disch := omega) [-Int.not_lt, -Int.not_le, -Nat.not_lt, -Nat.not_le, sx, go0, VmS.obs, VmS.push, hpE]
 refine ad0 [.e 0, .e 1, .e 2, .e 3, .e 4] rfl rfl (by simp) ?_
 simp
 have hpO := aE0 m s x y hs hl
 try simp [VmS.obs, VmS.obs', ag0] at hpO
 refine ae0 6 hpO (by simp) ?_
 clear hpO
 simp +contextual (maxSteps := 2000000) (disch := omega) [-Int.not_lt, -Int.not_le, -Nat.not_lt, -Nat.not_le, sx]
 refine ab0 ?_; simp; refine aa0 (hF) (by simp) ?_
 simp +contextual (maxSteps := 2000000) (disch := omega) [-Int.not_lt, -Int.not_le, -Nat.not_lt, -Nat.not_le, sx]
 refine ad0 [.e 0, .e 1, .e 2, .e 3, .e 4] rfl rfl (by simp) ?_
 simp
 have hpO := aZ0 { m with stk := s, junk := x :: y :: m.junk } r e he
 try simp [VmS.obs, VmS.obs', ag0] at hpO
 refine bh0 hpO ?_
 clear hpO
 simp +contextual (maxSteps := 2000000) (disch := omega) [-Int.not_lt, -Int.not_le, -Nat.not_lt, -Nat.not_le, sx]
 refine endP ?_
 simp +contextual (maxSteps := 2000000) (disch := omega) [-Int.not_lt, -Int.not_le, -Nat.not_lt, -Nat.not_le, sx]
theorem oK0 (m : VmS) (a : Int) (s : List Val) (x : Val) (y : Val) (hs : m.stk = s ++ [x, y]) (hl : m.stk.length < 2 ^ 40) (r : Val) (e : Int) (hF : Ret prog hD0 [x.V, y.V] (.tup [r.V, vI e])) (he : e = 0) :
  J prog dI0 [.bp (.e 0) 0, vI a] m.obs (· = .ret (.tup []) (({ m with stk := s, junk := x :: y :: m.junk } : VmS).push r).obs') := by
 have hl2 : s.length < 2 ^ 40 := by rw [hs] at hl; simp at hl; omega
 subst he
 refine az0 jH0 (by simp [VmS.obs]) ?_
 simp +contextual (maxSteps := 2000000) (disch := omega) [-Int.not_lt, -Int.not_le, -Nat.not_lt, -Nat.not_le, sx, gq0, VmS.obs, VmS.push, hpE]
 refine ad0 [.e 0, .e 1, .e 2, .e 3, .e 4] rfl rfl (by simp) ?_
 simp
 have hpO := aE0 m s x y hs hl
 try simp [VmS.obs, VmS.obs', ag0] at hpO
 refine ae0 6 hpO (by simp) ?_
 clear hpO
 simp +contextual (maxSteps := 2000000) (disch := omega) [-Int.not_lt, -Int.not_le, -Nat.not_lt, -Nat.not_le, sx]
 refine ab0 ?_; simp; refine aa0 (hF) (by simp) ?_
 simp +contextual (maxSteps := 2000000) (disch := omega) [-Int.not_lt, -Int.not_le, -Nat.not_lt, -Nat.not_le, sx]
 refine ad0 [.e 0, .e 1, .e 2, .e 3, .e 4] rfl rfl (by simp) ?_
 simp
 have hpO := aC0 { m with stk := s, junk := x :: y :: m.junk } r hl2
 try simp [VmS.obs, VmS.obs', ag0] at hpO
 refine ae0 12 hpO (by simp) ?_
 clear hpO
 simp +contextual (maxSteps := 2000000) (disch := omega) [-Int.not_lt, -Int.not_le, -Nat.not_lt, -Nat.not_le, sx]
 refine endN _ _ (Wk.refl _ _) [.l 12 0] (by simp) ?_
 simp +contextual (maxSteps := 2000000) (disch := omega) [-Int.not_lt, -Int.not_le, -Nat.not_lt, -Nat.not_le, sx, VmS.obs']
theorem nN0 (m : VmS) (a : Int) (s : List Val) (x : Val) (y : Val) (hs : m.stk = s ++ [x, y]) (hl : m.stk.length < 2 ^ 40) (r : Val) (e : Int) (hF : Ret prog hD0 [x.V, y.V] (.tup [r.V, vI e])) (he : e ≠ 0) :
  J prog dI0 [.bp (.e 0) 0, vI a] m.obs (· = .pan (eF0 e) { m with stk := s, junk := x :: y :: m.junk }.obs) := by
 have hl2 : s.length < 2 ^ 40 := by rw [hs] at hl; simp at hl; omega
 refine az0 jH0 (by simp [VmS.obs]) ?_
 simp +contextual (maxSteps := 2000000) (disch := omega) [-Int.not_lt, -Int.not_le, -Nat.not_lt, -Nat.not_le, sx, gq0, VmS.obs, VmS.push, hpE]
 refine ad0 [.e 0, .e 1, .e 2, .e 3, .e 4] rfl rfl (by simp) ?_
 simp
 have hpO := aE0 m s x y hs hl
 try simp [VmS.obs, VmS.obs', ag0] at hpO
 refine ae0 6 hpO (by simp) ?_
 clear hpO
 simp +contextual (maxSteps := 2000000) (disch := omega) [-Int.not_lt, -Int.not_le, -Nat.not_lt, -Nat.not_le, sx]
 refine ab0 ?_; simp; refine aa0 (hF) (by simp) ?_
 simp +contextual (maxSteps := 2000000) (disch := omega) [-Int.not_lt, -Int.not_le, -Nat.not_lt, -Nat.not_le, sx]
 refine ad0 [.e 0, .e 1, .e 2, .e 3, .e 4] rfl rfl (by simp) ?_
 simp
 have hpO := aZ0 { m with stk := s, junk := x :: y :: m.junk } r e he
 try simp [VmS.obs, VmS.obs', ag0] at hpO
 refine bh0 hpO ?_
 clear hpO
 simp +contextual (maxSteps := 2000000) (disch := omega) [-Int.not_lt, -Int.not_le, -Nat.not_lt, -Nat.not_le, sx]
 refine endP ?_
 simp +contextual (maxSteps := 2000000) (disch := omega) [-Int.not_lt, -Int.not_le, -Nat.not_lt, -Nat.not_le, sx]
theorem p40 (m : VmS) (a : Int) (s : List Val) (x : Val) (y : Val) (hs : m.stk = s ++ [x, y]) (hl : m.stk.length < 2 ^ 40) (r : Val) (e : Int) (hF : Ret prog fX0 [vI a, x.V, y.V] (.tup [r.V, vI e])) (he : e = 0) :
  J prog f00 [.bp (.e 0) 0, vI a] m.obs (· = .ret (.tup []) (({ m with stk := s, junk := x :: y :: m.junk } : VmS).push r).obs') := by
 have hl2 : s.length < 2 ^ 40 := by rw [hs] at hl; simp at hl; omega
 subst he
 refine az0 kO0 (by simp [VmS.obs]) ?_
 simp +contextual (maxSteps := 2000000) (disch := omega) [-Int.not_lt, -Int.not_le, -Nat.not_lt, -Nat.not_le, sx, hu0, VmS.obs, VmS.push, hpE]
 refine ad0 [.e 0, .e 1, .e 2, .e 3, .e 4] rfl rfl (by simp) ?_
 simp
 have hpO := aE0 m s x y hs hl
 try simp [VmS.obs, VmS.obs', ag0] at hpO
 refine ae0 8 hpO (by simp) ?_
 clear hpO
 simp +contextual (maxSteps := 2000000) (disch := omega) [-Int.not_lt, -Int.not_le, -Nat.not_lt, -Nat.not_le, sx]
 refine ab0 ?_; simp; refine aa0 (hF) (by simp) ?_
 simp +contextual (maxSteps := 2000000) (disch := omega) [-Int.not_lt, -Int.not_le, -Nat.not_lt, -Nat.not_le, sx]
 refine ad0 [.e 0, .e 1, .e 2, .e 3, .e 4] rfl rfl (by simp) ?_
 simp
 have hpO := aC0 { m with stk := s, junk := x :: y :: m.junk } r hl2
 try simp [VmS.obs, VmS.obs', ag0] at hpO
 refine ae0 18 hpO (by simp) ?_
 clear hpO
 simp +contextual (maxSteps := 2000000) (disch := omega) [-Int.not_lt, -Int.not_le, -Nat.not_lt, -Nat.not_le, sx]
 refine endN _ _ (Wk.refl _ _) [.l 18 0] (by simp) ?_
 simp +contextual (maxSteps := 2000000) (disch := omega) [-Int.not_lt, -Int.not_le, -Nat.not_lt, -Nat.not_le, sx, VmS.obs']
theorem oi0 (m : VmS) (a : Int) (s : List Val) (x : Val) (y : Val) (hs : m.stk = s ++ [x, y]) (hl : m.stk.length < 2 ^ 40) (r : Val) (e : Int) (hF : Ret prog fX0 [vI a, x.V, y.V] (.tup [r.V, vI e])) (he : e ≠ 0) :
  J prog f00 [.bp (.e 0) 0, vI a] m.obs (· = .pan (eF0 e) { m with stk := s, junk := x :: y :: m.junk }.obs) := by
 have hl2 : s.length < 2 ^ 40 := by rw [hs] at hl; simp at hl; omega
 refine az0 kO0 (by simp [VmS.obs]) ?_
 simp +contextual (maxSteps := 2000000) (disch := omega) [-Int.not_lt, -Int.not_le, -Nat.not_lt, -Nat.not_le, sx, hu0, VmS.obs, VmS.push, hpE]
 refine ad0 [.e 0, .e 1, .e 2, .e 3, .e 4] rfl rfl (by simp) ?_
 simp
 have hpO := aE0 m s x y hs hl
 try simp [VmS.obs, VmS.obs', ag0] at hpO
 refine ae0 8 hpO (by simp) ?_
 clear hpO
 simp +contextual (maxSteps := 2000000) (disch := omega) [-Int.not_lt, -Int.not_le, -Nat.not_lt, -Nat.not_le, sx]
 refine ab0 ?_; simp; refine aa0 (hF) (by simp) ?_
 simp +contextual (maxSteps := 2000000) (disch := omega) [-Int.not_lt, -Int.not_le, -Nat.not_lt, -Nat.not_le, sx]
 refine ad0 [.e 0, .e 1, .e 2, .e 3, .e 4] rfl rfl (by simp) ?_
 simp
 have hpO := aZ0 { m with stk := s, junk := x :: y :: m.junk } r e he
 try simp [VmS.obs, VmS.obs', ag0] at hpO
 refine bh0 hpO ?_
 clear hpO
 simp +contextual (maxSteps := 2000000) (disch := omega) [-Int.not_lt, -Int.not_le, -Nat.not_lt, -Nat.not_le, sx]
 refine endP ?_
 simp +contextual (maxSteps := 2000000) (disch := omega) [-Int.not_lt, -Int.not_le, -Nat.not_lt, -Nat.not_le, sx]
theorem ow0 (m : VmS) (a : Int) (s : List Val) (v : Val) (hs : m.stk = s ++ [v]) (hl : m.stk.length < 2 ^ 40) (hv : v.kind = 2) :
  J prog dB0 [.bp (.e 0) 0, vI a] m.obs (· = .ret (.tup []) (({ m with stk := s, junk := v :: m.junk } : VmS).push (Val.bool (!decide (v.num = 1)))).obs') := by
 have hl2 : s.length < 2 ^ 40 := by rw [hs] at hl; simp at hl; omega
 refine az0 jA0 (by simp [VmS.obs]) ?_
 simp +contextual (maxSteps := 2000000) (disch := omega) [-Int.not_lt, -Int.not_le, -Nat.not_lt, -Nat.not_le, sx, gj0, VmS.obs, VmS.push, hpE]
 refine ad0 [.e 0, .e 1, .e 2, .e 3, .e 4] rfl rfl (by simp) ?_
 simp
 have hpO := cV0 m s v hs hv hl
 try simp [VmS.obs, VmS.obs', ag0] at hpO
 refine ae0 6 hpO (by simp) ?_
 clear hpO
 simp +contextual (maxSteps := 2000000) (disch := omega) [-Int.not_lt, -Int.not_le, -Nat.not_lt, -Nat.not_le, sx]
 refine ab0 ?_; simp; refine aa0 (ck0 (!decide (v.num = 1))) (by simp) ?_
 simp +contextual (maxSteps := 2000000) (disch := omega) [-Int.not_lt, -Int.not_le, -Nat.not_lt, -Nat.not_le, sx]
 refine ad0 [.e 0, .e 1, .e 2, .e 3, .e 4] rfl rfl (by simp) ?_
 simp
 have hpO := aC0 { m with stk := s, junk := v :: m.junk } (Val.bool (!decide (v.num = 1))) hl2
 try simp [VmS.obs, VmS.obs', ag0] at hpO
 refine ae0 9 hpO (by simp) ?_
 clear hpO
 simp +contextual (maxSteps := 2000000) (disch := omega) [-Int.not_lt, -Int.not_le, -Nat.not_lt, -Nat.not_le, sx]
 refine endN _ _ (Wk.refl _ _) [.l 9 0] (by simp) ?_
 simp +contextual (maxSteps := 2000000) (disch := omega) [-Int.not_lt, -Int.not_le, -Nat.not_lt, -Nat.not_le, sx, VmS.obs']
theorem nG0 (m : VmS) (a : Int) (s : List Val) (v : Val) (hs : m.stk = s ++ [v]) (hl : m.stk.length < 2 ^ 40) (hv : v.kind ≠ 2) :
  J prog dB0 [.bp (.e 0) 0, vI a] m.obs (· = .pan (eF0 40) { m with stk := s, junk := v :: m.junk }.obs) := by
 refine az0 jA0 (by simp [VmS.obs]) ?_
 simp +contextual (maxSteps := 2000000) (disch := omega) [-Int.not_lt, -Int.not_le, -Nat.not_lt, -Nat.not_le, sx, gj0, VmS.obs, hpE]
 refine ad0 [.e 0, .e 1, .e 2, .e 3, .e 4] rfl rfl (by simp) ?_
 simp
 have hpO := gg0 m s v hs hv hl
 try simp [VmS.obs, VmS.obs', ag0] at hpO
 refine bh0 hpO ?_
 clear hpO
 simp +contextual (maxSteps := 2000000) (disch := omega) [-Int.not_lt, -Int.not_le, -Nat.not_lt, -Nat.not_le, sx]
 refine endP ?_
 simp +contextual (maxSteps := 2000000) (disch := omega) [-Int.not_lt, -Int.not_le, -Nat.not_lt, -Nat.not_le, sx]
theorem oI0 (m : VmS) (a : Int) (s : List Val) (x y z : Val) (hs : m.stk = s ++ [x, y, z]) (hl : m.stk.length < 2 ^ 40) (r : Val) (hF : Ret prog hG0 [x.V, y.V, z.V] (.tup [r.V, vI 0])) :
  J prog dH0 [.bp (.e 0) 0, vI a] m.obs (· = .ret (.tup []) (({ m with stk := s, junk := x :: y :: z :: m.junk } : VmS).push r).obs') := by
 have hl2 : s.length < 2 ^ 40 := by rw [hs] at hl; simp at hl; omega
 have hl3 : (s ++ [x, y]).length < 2 ^ 40 := by rw [hs] at hl; simp at hl ⊢; omega
 refine az0 jG0 (by simp [VmS.obs]) ?_
 simp +contextual (maxSteps := 2000000) (disch := omega) [-Int.not_lt, -Int.not_le, -Nat.not_lt, -Nat.not_le, sx, gp0, VmS.obs, VmS.push, hpE]
 refine ad0 [.e 0, .e 1, .e 2, .e 3, .e 4] rfl rfl (by simp) ?_
 simp
 have hpO := as0 m (s ++ [x, y]) z (by simp [hs]) hl
 try simp [VmS.obs, VmS.obs', ag0] at hpO
 refine ae0 8 hpO (by simp) ?_
 clear hpO
 simp +contextual (maxSteps := 2000000) (disch := omega) [-Int.not_lt, -Int.not_le, -Nat.not_lt, -Nat.not_le, sx]
 refine ad0 [.e 0, .e 1, .e 2, .e 3, .e 4] rfl rfl (by simp) ?_
 simp
 have hpO := aE0 { m with stk := s ++ [x, y], junk := z :: m.junk } s x y rfl hl3
 try simp [VmS.obs, VmS.obs', ag0] at hpO
 refine ae0 11 hpO (by simp) ?_
 clear hpO
 simp +contextual (maxSteps := 2000000) (disch := omega) [-Int.not_lt, -Int.not_le, -Nat.not_lt, -Nat.not_le, sx]
 refine ab0 ?_; simp; refine aa0 (hF) (by simp) ?_
 simp +contextual (maxSteps := 2000000) (disch := omega) [-Int.not_lt, -Int.not_le, -Nat.not_lt, -Nat.not_le, sx]
 refine ad0 [.e 0, .e 1, .e 2, .e 3, .e 4] rfl rfl (by simp) ?_
 simp
 have hpO := aC0 { m with stk := s, junk := x :: y :: z :: m.junk } r hl2
 try simp [VmS.obs, VmS.obs', ag0] at hpO
 refine ae0 21 hpO (by simp) ?_
 clear hpO
 simp +contextual (maxSteps := 2000000) (disch := omega) [-Int.not_lt, -Int.not_le, -Nat.not_lt, -Nat.not_le, sx]
 refine endN _ _ (Wk.refl _ _) [.l 21 0] (by simp) ?_
 simp +contextual (maxSteps := 2000000) (disch := omega) [-Int.not_lt, -Int.not_le, -Nat.not_lt, -Nat.not_le, sx, VmS.obs']
theorem nM0 (m : VmS) (a : Int) (s : List Val) (x y z : Val) (hs : m.stk = s ++ [x, y, z]) (hl : m.stk.length < 2 ^ 40) (r : Val) (e : Int) (hF : Ret prog hG0 [x.V, y.V, z.V] (.tup [r.V, vI e])) (he : e ≠ 0) :
  J prog dH0 [.bp (.e 0) 0, vI a] m.obs (· = .pan (eF0 e) { m with stk := s, junk := x :: y :: z :: m.junk }.obs) := by
 have hl3 : (s ++ [x, y]).length < 2 ^ 40 := by rw [hs] at hl; simp at hl ⊢; omega
 refine az0 jG0 (by simp [VmS.obs]) ?_
 simp +contextual (maxSteps := 2000000) (disch := omega) [-Int.not_lt, -Int.not_le, -Nat.not_lt, -Nat.not_le, sx, gp0, VmS.obs, hpE]
 refine ad0 [.e 0, .e 1, .e 2, .e 3, .e 4] rfl rfl (by simp) ?_
 simp
 have hpO := as0 m (s ++ [x, y]) z (by simp [hs]) hl
 try simp [VmS.obs, VmS.obs', ag0] at hpO
 refine ae0 8 hpO (by simp) ?_
 clear hpO
 simp +contextual (maxSteps := 2000000) (disch := omega) [-Int.not_lt, -Int.not_le, -Nat.not_lt, -Nat.not_le, sx]
 refine ad0 [.e 0, .e 1, .e 2, .e 3, .e 4] rfl rfl (by simp) ?_
 simp
 have hpO := aE0 { m with stk := s ++ [x, y], junk := z :: m.junk } s x y rfl hl3
 try simp [VmS.obs, VmS.obs', ag0] at hpO
 refine ae0 11 hpO (by simp) ?_
 clear hpO
 simp +contextual (maxSteps := 2000000) (disch := omega) [-Int.not_lt, -Int.not_le, -Nat.not_lt, -Nat.not_le, sx]
 refine ab0 ?_; simp; refine aa0 (hF) (by simp) ?_
 simp +contextual (maxSteps := 2000000) (disch := omega) [-Int.not_lt, -Int.not_le, -Nat.not_lt, -Nat.not_le, sx]
 refine ad0 [.e 0, .e 1, .e 2, .e 3, .e 4] rfl rfl (by simp) ?_
 simp
 have hpO := aZ0 { m with stk := s, junk := x :: y :: z :: m.junk } r e he
 try simp [VmS.obs, VmS.obs', ag0] at hpO
 refine bh0 hpO ?_
 clear hpO
 simp +contextual (maxSteps := 2000000) (disch := omega) [-Int.not_lt, -Int.not_le, -Nat.not_lt, -Nat.not_le, sx]
 refine endP ?_
 simp +contextual (maxSteps := 2000000) (disch := omega) [-Int.not_lt, -Int.not_le, -Nat.not_lt, -Nat.not_le, sx]
theorem ot0 : Ret prog b80 [vI 13] (.fn dA0 []) := by
 refine af0 b30 (by simp) ?_
 simp +contextual (maxSteps := 2000000) (disch := omega) [-Int.not_lt, -Int.not_le, -Nat.not_lt, -Nat.not_le, sx, bO0]
theorem ov0 : Ret prog b80 [vI 14] (.fn dB0 []) := by
 refine af0 b30 (by simp) ?_
 simp +contextual (maxSteps := 2000000) (disch := omega) [-Int.not_lt, -Int.not_le, -Nat.not_lt, -Nat.not_le, sx, bO0]
theorem ox0 : Ret prog b80 [vI 15] (.fn dC0 []) := by
 refine af0 b30 (by simp) ?_
 simp +contextual (maxSteps := 2000000) (disch := omega) [-Int.not_lt, -Int.not_le, -Nat.not_lt, -Nat.not_le, sx, bO0]
theorem oz0 : Ret prog b80 [vI 16] (.fn dD0 []) := by
 refine af0 b30 (by simp) ?_
 simp +contextual (maxSteps := 2000000) (disch := omega) [-Int.not_lt, -Int.not_le, -Nat.not_lt, -Nat.not_le, sx, bO0]
theorem oB0 : Ret prog b80 [vI 17] (.fn dE0 []) := by
 refine af0 b30 (by simp) ?_
 simp +contextual (maxSteps := 2000000) (disch := omega) [-Int.not_lt, -Int.not_le, -Nat.not_lt, -Nat.not_le, sx, bO0]
theorem oD0 : Ret prog b80 [vI 18] (.fn dF0 []) := by
 refine af0 b30 (by simp) ?_
 simp +contextual (maxSteps := 2000000) (disch := omega) [-Int.not_lt, -Int.not_le, -Nat.not_lt, -Nat.not_le, sx, bO0]
theorem oF0 : Ret prog b80 [vI 19] (.fn dG0 []) := by
 refine af0 b30 (by simp) ?_
 simp +contextual (maxSteps := 2000000) (disch := omega) [-Int.not_lt, -Int.not_le, -Nat.not_lt, -Nat.not_le, sx, bO0]
theorem oH0 : Ret prog b80 [vI 20] (.fn dH0 []) := by
 refine af0 b30 (by simp) ?_
 simp +contextual (maxSteps := 2000000) (disch := omega) [-Int.not_lt, -Int.not_le, -Nat.not_lt, -Nat.not_le, sx, bO0]
theorem oJ0 : Ret prog b80 [vI 21] (.fn dI0 []) := by
 refine af0 b30 (by simp) ?_
 simp +contextual (maxSteps := 2000000) (disch := omega) [-Int.not_lt, -Int.not_le, -Nat.not_lt, -Nat.not_le, sx, bO0]
theorem p50 : Ret prog aL0 [vI 1] (.fn is0 []) := by
 refine af0 aM0 (by simp) ?_
 simp +contextual (maxSteps := 2000000) (disch := omega) [-Int.not_lt, -Int.not_le, -Nat.not_lt, -Nat.not_le, sx, aH0]
theorem p60 : Ret prog aL0 [vI 2] (.fn it0 []) := by
 refine af0 aM0 (by simp) ?_
 simp +contextual (maxSteps := 2000000) (disch := omega) [-Int.not_lt, -Int.not_le, -Nat.not_lt, -Nat.not_le, sx, aH0]
theorem p70 : Ret prog aL0 [vI 3] (.fn iu0 []) := by
 refine af0 aM0 (by simp) ?_
 simp +contextual (maxSteps := 2000000) (disch := omega) [-Int.not_lt, -Int.not_le, -Nat.not_lt, -Nat.not_le, sx, aH0]
theorem p80 : Ret prog aL0 [vI 4] (.fn iv0 []) := by
 refine af0 aM0 (by simp) ?_
 simp +contextual (maxSteps := 2000000) (disch := omega) [-Int.not_lt, -Int.not_le, -Nat.not_lt, -Nat.not_le, sx, aH0]
theorem p90 : Ret prog aL0 [vI 5] (.fn iw0 []) := by
 refine af0 aM0 (by simp) ?_
 simp +contextual (maxSteps := 2000000) (disch := omega) [-Int.not_lt, -Int.not_le, -Nat.not_lt, -Nat.not_le, sx, aH0]
theorem qa0 : Ret prog aL0 [vI 6] (.fn ix0 []) := by
 refine af0 aM0 (by simp) ?_
 simp +contextual (maxSteps := 2000000) (disch := omega) [-Int.not_lt, -Int.not_le, -Nat.not_lt, -Nat.not_le, sx, aH0]
theorem qb0 : Ret prog aL0 [vI 7] (.fn cJ0 []) := by
 refine af0 aM0 (by simp) ?_
 simp +contextual (maxSteps := 2000000) (disch := omega) [-Int.not_lt, -Int.not_le, -Nat.not_lt, -Nat.not_le, sx, aH0]
theorem qc0 : Ret prog aL0 [vI 8] (.fn dk0 []) := by
 refine af0 aM0 (by simp) ?_
 simp +contextual (maxSteps := 2000000) (disch := omega) [-Int.not_lt, -Int.not_le, -Nat.not_lt, -Nat.not_le, sx, aH0]
theorem hX0 : Ret prog aL0 [vI 9] (.fn ct0 []) := by
 refine af0 aM0 (by simp) ?_
 simp +contextual (maxSteps := 2000000) (disch := omega) [-Int.not_lt, -Int.not_le, -Nat.not_lt, -Nat.not_le, sx, aH0]
theorem oj0 : Ret prog aL0 [vI 11] (.fn fZ0 []) := by
 refine af0 aM0 (by simp) ?_
 simp +contextual (maxSteps := 2000000) (disch := omega) [-Int.not_lt, -Int.not_le, -Nat.not_lt, -Nat.not_le, sx, aH0]
theorem ok0 : Ret prog aL0 [vI 12] (.fn f00 []) := by
 refine af0 aM0 (by simp) ?_
 simp +contextual (maxSteps := 2000000) (disch := omega) [-Int.not_lt, -Int.not_le, -Nat.not_lt, -Nat.not_le, sx, aH0]
theorem ol0 : Ret prog aL0 [vI 13] (.fn dA0 []) := by
 refine af0 aM0 (by simp) ?_
 simp +contextual (maxSteps := 2000000) (disch := omega) [-Int.not_lt, -Int.not_le, -Nat.not_lt, -Nat.not_le, sx, aH0]
 refine ab0 ?_; simp; refine aa0 (ot0) (by simp) ?_
 simp +contextual (maxSteps := 2000000) (disch := omega) [-Int.not_lt, -Int.not_le, -Nat.not_lt, -Nat.not_le, sx]
theorem jO0 : Ret prog aL0 [vI 14] (.fn dB0 []) := by
 refine af0 aM0 (by simp) ?_
 simp +contextual (maxSteps := 2000000) (disch := omega) [-Int.not_lt, -Int.not_le, -Nat.not_lt, -Nat.not_le, sx, aH0]
 refine ab0 ?_; simp; refine aa0 (ov0) (by simp) ?_
 simp +contextual (maxSteps := 2000000) (disch := omega) [-Int.not_lt, -Int.not_le, -Nat.not_lt, -Nat.not_le, sx]
theorem om0 : Ret prog aL0 [vI 15] (.fn dC0 []) := by
 refine af0 aM0 (by simp) ?_
 simp +contextual (maxSteps := 2000000) (disch := omega) [-Int.not_lt, -Int.not_le, -Nat.not_lt, -Nat.not_le, sx, aH0]
 refine ab0 ?_; simp; refine aa0 (ox0) (by simp) ?_
 simp +contextual (maxSteps := 2000000) (disch := omega) [-Int.not_lt, -Int.not_le, -Nat.not_lt, -Nat.not_le, sx]
theorem on0 : Ret prog aL0 [vI 16] (.fn dD0 []) := by
 refine af0 aM0 (by simp) ?_
 simp +contextual (maxSteps := 2000000) (disch := omega) [-Int.not_lt, -Int.not_le, -Nat.not_lt, -Nat.not_le, sx, aH0]
 refine ab0 ?_; simp; refine aa0 (oz0) (by simp) ?_
 simp +contextual (maxSteps := 2000000) (disch := omega) [-Int.not_lt, -Int.not_le, -Nat.not_lt, -Nat.not_le, sx]
theorem oo0 : Ret prog aL0 [vI 17] (.fn dE0 []) := by
 refine af0 aM0 (by simp) ?_
 simp +contextual (maxSteps := 2000000) (disch := omega) [-Int.not_lt, -Int.not_le, -Nat.not_lt, -Nat.not_le, sx, aH0]
 refine ab0 ?_; simp; refine aa0 (oB0) (by simp) ?_
 simp +contextual (maxSteps := 2000000) (disch := omega) [-Int.not_lt, -Int.not_le, -Nat.not_lt, -Nat.not_le, sx]
theorem op0 : Ret prog aL0 [vI 18] (.fn dF0 []) := by
 refine af0 aM0 (by simp) ?_
 simp +contextual (maxSteps := 2000000) (disch := omega) [-Int.not_lt, -Int.not_le, -Nat.not_lt, -Nat.not_le, sx, aH0]
 refine ab0 ?_; simp; refine aa0 (oD0) (by simp) ?_
 simp +contextual (maxSteps := 2000000) (disch := omega) [-Int.not_lt, -Int.not_le, -Nat.not_lt, -Nat.not_le, sx]
theorem oq0 : Ret prog aL0 [vI 19] (.fn dG0 []) := by
 refine af0 aM0 (by simp) ?_
 simp +contextual (maxSteps := 2000000) (disch := omega) [-Int.not_lt, -Int.not_le, -Nat.not_lt, -Nat.not_le, sx, aH0]
 refine ab0 ?_; simp; refine aa0 (oF0) (by simp) ?_
 simp +contextual (maxSteps := 2000000) (disch := omega) [-Int.not_lt, -Int.not_le, -Nat.not_lt, -Nat.not_le, sx]
theorem or0 : Ret prog aL0 [vI 20] (.fn dH0 []) := by
 refine af0 aM0 (by simp) ?_
 simp +contextual (maxSteps := 2000000) (disch := omega) [-Int.not_lt, -Int.not_le, -Nat.not_lt, -Nat.not_le, sx, aH0]
 refine ab0 ?_; simp; refine aa0 (oH0) (by simp) ?_
 simp +contextual (maxSteps := 2000000) (disch := omega) [-Int.not_lt, -Int.not_le, -Nat.not_lt, -Nat.not_le, sx]
theorem os0 : Ret prog aL0 [vI 21] (.fn dI0 []) := by
 refine af0 aM0 (by simp) ?_
 simp +contextual (maxSteps := 2000000) (disch := omega) [-Int.not_lt, -Int.not_le, -Nat.not_lt, -Nat.not_le, sx, aH0]
 refine ab0 ?_; simp; refine aa0 (oJ0) (by simp) ?_
 simp +contextual (maxSteps := 2000000) (disch := omega) [-Int.not_lt, -Int.not_le, -Nat.not_lt, -Nat.not_le, sx]
end Go.Am
end

section
namespace Go.Am
set_option maxRecDepth 100000
theorem nV0 : hh0.alt = (.areg (AT.take ⟨(some 4), none, (.mv (.tmp 0))⟩ (AT.take ⟨(some 5), none, (.nchk (.tmp 4))⟩ (AT.take ⟨(some 6), none, (.fa 6 (.tmp 5))⟩ (AT.take ⟨(some 8), none, (.mv (.tmp 1))⟩ (AT.take ⟨(some 9), none, (.mv (.tmp 0))⟩ (AT.alt ⟨(some 7), none, (.ld (.tmp 6))⟩ (AT.alt ⟨(some 10), none, (.call (.func 42) [(.tmp 9)])⟩ AT.done AT.nil) (AT.alt ⟨(some 10), none, (.call (.func 42) [(.tmp 9)])⟩ (AT.alt ⟨(some 7), none, (.ld (.tmp 6))⟩ AT.done AT.nil) AT.nil))))))) [⟨(some 11), none, (.ia 4 (.tmp 7) (.tmp 8))⟩, ⟨none, none, (.st 4 (.tmp 11) (.tmp 10))⟩] [(some 4), (some 5), (some 6), (some 7), (some 8), (some 9), (some 10), (some 11), none]) := by rw [hh0]; rfl
theorem nW0 : hs0.alt = (.areg (AT.take ⟨(some 4), none, (.mv (.tmp 0))⟩ (AT.take ⟨(some 5), none, (.nchk (.tmp 4))⟩ (AT.take ⟨(some 6), none, (.fa 0 (.tmp 5))⟩ (AT.take ⟨(some 11), none, (.mv (.tmp 1))⟩ (AT.take ⟨(some 12), none, (.mv (.tmp 0))⟩ (AT.alt ⟨(some 7), none, (.ld (.tmp 6))⟩ (AT.take ⟨(some 8), none, (.nchk (.tmp 7))⟩ (AT.take ⟨(some 9), none, (.fa 2 (.tmp 8))⟩ (AT.alt ⟨(some 10), none, (.ld (.tmp 9))⟩ (AT.alt ⟨(some 13), none, (.call (.func 42) [(.tmp 12)])⟩ AT.done AT.nil) (AT.alt ⟨(some 13), none, (.call (.func 42) [(.tmp 12)])⟩ (AT.alt ⟨(some 10), none, (.ld (.tmp 9))⟩ AT.done AT.nil) AT.nil)))) (AT.alt ⟨(some 13), none, (.call (.func 42) [(.tmp 12)])⟩ (AT.alt ⟨(some 7), none, (.ld (.tmp 6))⟩ (AT.take ⟨(some 8), none, (.nchk (.tmp 7))⟩ (AT.take ⟨(some 9), none, (.fa 2 (.tmp 8))⟩ (AT.alt ⟨(some 10), none, (.ld (.tmp 9))⟩ AT.done AT.nil))) AT.nil) AT.nil))))))) [⟨(some 14), none, (.ia 4 (.tmp 10) (.tmp 11))⟩, ⟨none, none, (.st 4 (.tmp 14) (.tmp 13))⟩] [(some 4), (some 5), (some 6), (some 7), (some 8), (some 9), (some 10), (some 11), (some 12), (some 13), (some 14), none]) := by rw [hs0]; rfl
end Go.Am
end

section
namespace Go.Am
set_option maxRecDepth 100000
attribute [local irreducible] vc vcIs vcI vcOp vcD vcDp vcDR vcT vcAR bp0 aK0 panD neG ne pv J bm0 bl0 bt0 aS0 evK evsK nthK objK boxK rowK bg0 intK strK aggK fnK ifcK aw0 at0 ldK ldaK iaK srcK stK appK appD bv0 pvK br0 aF0 bk0
theorem nB0 (m : VmS) (a : Int) (s : List Val) (v : Val) (hs : m.stk = s ++ [v]) (h0 : 0 <= a) (h : a.toNat < m.loc.length) (hl : m.stk.length < 2 ^ 40) :
  J prog iu0 [.bp (.e 0) 0, vI a] m.obs (· = .ret (.tup []) { m with stk := s, junk := v :: m.junk, loc := m.loc.set a.toNat v }.obs) := by
 refine az0 pw0.alt (by simp [VmS.obs]) ?_
 simp +contextual (maxSteps := 2000000) (disch := omega) [-Int.not_lt, -Int.not_le, -Nat.not_lt, -Nat.not_le, sx, nV0, VmS.obs, hpE]
 (repeat' (first | apply And.intro | intro _))
 ·refine ad0 [.e 0, .e 1, .e 2, .e 3, .e 4] rfl rfl (by simp) ?_
  simp
  have hpO := as0 m s v hs hl
  try simp [VmS.obs, VmS.obs', ag0] at hpO
  refine ae0 10 hpO (by simp) ?_
  clear hpO
  simp +contextual (maxSteps := 2000000) (disch := omega) [-Int.not_lt, -Int.not_le, -Nat.not_lt, -Nat.not_le, sx, List.length_set, List.map_set]
  refine endN _ _ (Wk.refl _ _) [] (by simp) ?_
  simp +contextual (maxSteps := 2000000) (disch := omega) [-Int.not_lt, -Int.not_le, -Nat.not_lt, -Nat.not_le, sx]
 ·refine ad0 [.e 0, .e 1, .e 2, .e 3, .e 4] rfl rfl (by simp) ?_
  simp
  have hpO := as0 m s v hs hl
  try simp [VmS.obs, VmS.obs', ag0] at hpO
  refine ae0 10 hpO (by simp) ?_
  clear hpO
  simp +contextual (maxSteps := 2000000) (disch := omega) [-Int.not_lt, -Int.not_le, -Nat.not_lt, -Nat.not_le, sx, List.length_set, List.map_set]
  refine endN _ _ (Wk.refl _ _) [] (by simp) ?_
  simp +contextual (maxSteps := 2000000) (disch := omega) [-Int.not_lt, -Int.not_le, -Nat.not_lt, -Nat.not_le, sx]
theorem nD0 (m : VmS) (a : Int) (s : List Val) (v : Val) (hs : m.stk = s ++ [v]) (h0 : 0 <= a) (h : a.toNat < m.sts.length) (hl : m.stk.length < 2 ^ 40) :
  J prog iw0 [.bp (.e 0) 0, vI a] m.obs (· = .ret (.tup []) { m with stk := s, junk := v :: m.junk, sts := m.sts.set a.toNat v }.obs) := by
 refine az0 py0.alt (by simp [VmS.obs]) ?_
 simp +contextual (maxSteps := 2000000) (disch := omega) [-Int.not_lt, -Int.not_le, -Nat.not_lt, -Nat.not_le, sx, nW0, VmS.obs, hpE]
 (repeat' (first | apply And.intro | intro _))
 ·refine ad0 [.e 0, .e 1, .e 2, .e 3, .e 4] rfl rfl (by simp) ?_
  simp
  have hpO := as0 m s v hs hl
  try simp [VmS.obs, VmS.obs', ag0] at hpO
  refine ae0 13 hpO (by simp) ?_
  clear hpO
  simp +contextual (maxSteps := 2000000) (disch := omega) [-Int.not_lt, -Int.not_le, -Nat.not_lt, -Nat.not_le, sx, List.length_set, List.map_set]
  refine endN _ _ (Wk.refl _ _) [] (by simp) ?_
  simp +contextual (maxSteps := 2000000) (disch := omega) [-Int.not_lt, -Int.not_le, -Nat.not_lt, -Nat.not_le, sx]
 ·refine ad0 [.e 0, .e 1, .e 2, .e 3, .e 4] rfl rfl (by simp) ?_
  simp
  have hpO := as0 m s v hs hl
  try simp [VmS.obs, VmS.obs', ag0] at hpO
  refine ae0 13 hpO (by simp) ?_
  clear hpO
  simp +contextual (maxSteps := 2000000) (disch := omega) [-Int.not_lt, -Int.not_le, -Nat.not_lt, -Nat.not_le, sx, List.length_set, List.map_set]
  refine endN _ _ (Wk.refl _ _) [] (by simp) ?_
  simp +contextual (maxSteps := 2000000) (disch := omega) [-Int.not_lt, -Int.not_le, -Nat.not_lt, -Nat.not_le, sx]
 ·refine ad0 [.e 0, .e 1, .e 2, .e 3, .e 4] rfl rfl (by simp) ?_
  simp
  have hpO := as0 m s v hs hl
  try simp [VmS.obs, VmS.obs', ag0] at hpO
  refine ae0 13 hpO (by simp) ?_
  clear hpO
  simp +contextual (maxSteps := 2000000) (disch := omega) [-Int.not_lt, -Int.not_le, -Nat.not_lt, -Nat.not_le, sx, List.length_set, List.map_set]
  refine endN _ _ (Wk.refl _ _) [] (by simp) ?_
  simp +contextual (maxSteps := 2000000) (disch := omega) [-Int.not_lt, -Int.not_le, -Nat.not_lt, -Nat.not_le, sx]
end Go.Am
end

section
namespace Go.Am
structure Fr where
 loc : List Val
 stk : List Val
 at_ : Int
 sts : List Val
 fuel : Int
def Fr.vm (S : Fr) (m : Mdl) (f : Fnc) (junk : List Val) : VmS := ⟨f, S.loc, S.stk, junk, S.at_, m, S.sts, S.fuel⟩
inductive dT0 where
 | on (S : Fr)
 | trap (e : Int) (S : Fr)
def popL (l : List Val) : Option (List Val × Val) := match l.getLast? with | some v => some (l.dropLast, v) | none => none
theorem dg0 (s : List Val) (v : Val) : popL (s ++ [v]) = some (s, v) := by simp [popL]
theorem ef0 {l s : List Val} {v : Val} (h : popL l = some (s, v)) : l = s ++ [v] := by
 rcases l.eq_nil_or_concat with rfl | ⟨t, w, rfl⟩
 ·simp [popL] at h
 ·rw [List.concat_eq_append, dg0] at h
  injection h with h; injection h with h1 h2
  rw [h1, h2, List.concat_eq_append]
def g40 (l : List Val) (k : Nat) : Option (List Val × List Val) := if k <= l.length then some (l.take (l.length - k), l.drop (l.length - k)) else none
theorem er0 {l s vs : List Val} {k : Nat} (h : g40 l k = some (s, vs)) : l = s ++ vs /\ vs.length = k := by
 unfold g40 at h
 split at h
 ·injection h with h; injection h with h1 h2
  subst h1 h2
  exact ⟨(List.take_append_drop _ _).symm, by simp; omega⟩
 ·cases h
theorem hU0 (s vs : List Val) : g40 (s ++ vs) vs.length = some (s, vs) := by simp [g40]
def mk1 (op a : Int) : List Val -> Option (Val × Int)
 | [x] => if op = 13 then some x.neg else if op = 14 then some (if x.kind = 2 then (Val.bool (!decide (x.num = 1)), 0) else (Val.zero, 40))
  else if op = 15 then some (Val.int x.len.1, x.len.2) else if op = 16 then some x.strv else none
 | [x, y] => if op = 12 then some (Val.bin a x y) else if op = 17 then some (Val.bool (x.has y).1, (x.has y).2) else if op = 18 then some (x.at y)
  else if op = 19 then some (x.push y) else if op = 21 then some (x.del y) else none
 | [x, y, z] => if op = 20 then some (x.put y z) else none
 | _ => none
def cnt (op : Int) : Nat := if op = 20 then 3 else if op = 12 \/ op = 17 \/ op = 18 \/ op = 19 \/ op = 21 then 2 else 1
def Fr.jump (S : Fr) (a : Int) : dT0 :=
 if a < S.at_ then (if S.fuel < 1 then .trap 54 { S with fuel := 0 } else .on { S with at_ := a, fuel := S.fuel - 1 }) else .on { S with at_ := a }
def prim (m : Mdl) (i : Ins) (S : Fr) : Option dT0 :=
 if i.a < 0 then none
 else if i.op = 1 then (m.consts[i.a.toNat]?).map fun v => .on { S with stk := S.stk ++ [v] }
 else if i.op = 2 then (S.loc[i.a.toNat]?).map fun v => .on { S with stk := S.stk ++ [v] }
 else if i.op = 4 then (S.sts[i.a.toNat]?).map fun v => .on { S with stk := S.stk ++ [v] }
 else if i.op = 3 then if i.a.toNat < S.loc.length then (popL S.stk).map fun p => .on { S with stk := p.1, loc := S.loc.set i.a.toNat p.2 } else none
 else if i.op = 5 then if i.a.toNat < S.sts.length then (popL S.stk).map fun p => .on { S with stk := p.1, sts := S.sts.set i.a.toNat p.2 } else none
 else if i.op = 6 then (popL S.stk).map fun p => .on { S with stk := p.1 }
 else if i.op = 7 then some (S.jump i.a)
 else if i.op = 8 then (popL S.stk).map fun p => if p.2.kind = 2 then (if p.2.num = 1 then .on { S with stk := p.1 } else ({ S with stk := p.1 } : Fr).jump i.a) else .trap 40 { S with stk := p.1 }
 else if i.op = 11 then some (if S.fuel < i.a then .trap 54 { S with fuel := 0 } else .on { S with fuel := S.fuel - i.a })
 else (g40 S.stk (cnt i.op)).bind fun p => (mk1 i.op i.a p.2).map fun r => if r.2 = 0 then .on { S with stk := p.1 ++ [r.1] } else .trap r.2 { S with stk := p.1 }
structure Fr.fit (S : Fr) : Prop where
 a0 : 0 <= S.at_
 len : S.stk.length < 2 ^ 40
 f0 : 0 <= S.fuel
 f1 : S.fuel < 2 ^ 40
 vals : ∀ v ∈ S.stk, v.wt < 2 ^ 40 /\ -9223372036854775808 <= v.num /\ v.num < 9223372036854775808
inductive Out where
 | val (v : Val) (sts : List Val) (fuel : Int)
 | trap (e : Int) (sts : List Val) (fuel : Int)
def Fnc.start (f : Fnc) (args sts : List Val) (fuel : Int) : Fr := ⟨args ++ List.replicate (f.locals.toNat - args.length) (Val.int 0), [], 0, sts, fuel⟩
open Classical in
noncomputable def run (m : Mdl) : Nat -> Fnc -> Fr -> Option Out
 | 0, _, _ => none
 | g + 1, f, S =>
  if S.fit then
   (f.code[S.at_.toNat]?).bind fun i =>
    if i.op = 10 then (popL S.stk).map fun p => .val p.2 S.sts S.fuel
    else if i.op = 9 then
     if i.a < 0 then none
     else if S.fuel < 1 then some (.trap 54 S.sts 0)
     else (m.funcs[i.a.toNat]?).bind fun h => if h.params < 0 then none else (g40 S.stk h.params.toNat).bind fun p =>
      match run m g h (h.start p.2 S.sts (S.fuel - 1)) with
      | none => none
      | some (.trap e sts fuel) => some (.trap e sts fuel)
      | some (.val v sts fuel) => run m g f { S with stk := p.1 ++ [v], at_ := S.at_ + 1, sts := sts, fuel := fuel }
    else match prim m i { S with at_ := S.at_ + 1 } with
     | none => none
     | some (.trap e S') => some (.trap e S'.sts S'.fuel)
     | some (.on S') => run m g f S'
  else none
end Go.Am
end

section
namespace Go.Am
set_option maxRecDepth 100000
attribute [local irreducible] vc vcIs vcI vcOp vcD vcDp vcDR vcT vcAR bp0 aK0 panD neG ne pv J bm0 bl0 bt0 aS0 evK evsK nthK objK boxK rowK bg0 intK strK aggK fnK ifcK aw0 at0 ldK ldaK iaK srcK stK appK appD bv0 pvK br0 aF0 bk0
def Does (g : Nat) (a : Int) (X : VmS) : dT0 -> Prop
 | .on S' => ∃ junk', J prog g [.bp (.e 0) 0, vI a] X.obs (· = .ret (.tup []) (S'.vm X.m X.fn junk').obs) \/ J prog g [.bp (.e 0) 0, vI a] X.obs (· = .ret (.tup []) (S'.vm X.m X.fn junk').obs')
 | .trap e S' => ∃ junk', J prog g [.bp (.e 0) 0, vI a] X.obs (· = .pan (eF0 e) (S'.vm X.m X.fn junk').obs)
theorem jump_does (S : Fr) (m : Mdl) (f : Fnc) (junk : List Val) (a : Int) (h : S.fit) : Does cJ0 a (S.vm m f junk) (S.jump a) := by
 unfold Fr.jump
 by_cases h1 : a < S.at_
 ·rw [if_pos h1]
  by_cases h2 : S.fuel < 1
  ·rw [if_pos h2]
   exact ⟨junk, g60 (S.vm m f junk) a h1 h2⟩
  ·rw [if_neg h2]
   refine ⟨junk, .inl ?_⟩
   have := eG0 (S.vm m f junk) a (fun _ => by show 1 <= S.fuel; omega) h.f1
   rw [show (S.vm m f junk).at_ = S.at_ from rfl, if_pos h1] at this
   exact this
 ·rw [if_neg h1]
  refine ⟨junk, .inl ?_⟩
  have := eG0 (S.vm m f junk) a (fun hh => absurd hh h1) h.f1
  rw [show (S.vm m f junk).at_ = S.at_ from rfl, if_neg h1] at this
  exact this
def Done (m : Mdl) (i : Ins) (S : Fr) (r : dT0) : Prop := ∃ g, Ret prog aL0 [vI i.op] (.fn g []) /\ ∀ f junk, Does g i.a (S.vm m f junk) r
theorem made (m : Mdl) (i : Ins) (S : Fr) (s vs : List Val) (r : Val × Int) (g : Nat) (ht : Ret prog aL0 [vI i.op] (.fn g []))
  (h0 : r.2 = 0 -> ∀ f junk, ∃ junk', J prog g [.bp (.e 0) 0, vI i.a] (S.vm m f junk).obs (· = .ret (.tup []) ((({ S with stk := s } : Fr).vm m f junk').push r.1).obs'))
  (h1 : r.2 ≠ 0 -> ∀ f junk, ∃ junk', J prog g [.bp (.e 0) 0, vI i.a] (S.vm m f junk).obs (· = .pan (eF0 r.2) (({ S with stk := s } : Fr).vm m f junk').obs)) :
  Done m i S (if r.2 = 0 then .on { S with stk := s ++ [r.1] } else .trap r.2 { S with stk := s }) := by
 refine ⟨g, ht, fun f junk => ?_⟩
 by_cases h : r.2 = 0
 ·rw [if_pos h]
  obtain ⟨j, hj⟩ := h0 h f junk
  exact ⟨[], .inr hj⟩
 ·rw [if_neg h]
  exact h1 h f junk
theorem prim_done (m : Mdl) (i : Ins) (S : Fr) (r : dT0) (hp : prim m i S = some r) (hf : S.fit) (h9 : i.op ≠ 9) (h10 : i.op ≠ 10) : Done m i S r := by
 obtain ⟨op, a⟩ := i
 unfold prim at hp
 simp only at hp h9 h10
 by_cases ha : a < 0
 ·rw [if_pos ha] at hp; cases hp
 rw [if_neg ha] at hp
 have hl := hf.len
 by_cases h : op = 1
 ·subst h
  rw [if_pos rfl] at hp
  obtain ⟨v, hv, rfl⟩ := Option.map_eq_some_iff.1 hp
  obtain ⟨k1, rfl⟩ := List.getElem?_eq_some_iff.1 hv
  exact ⟨_, p50, fun f junk => ⟨[], .inr (nw0 (S.vm m f junk) a (by omega) k1 hl)⟩⟩
 rw [if_neg h] at hp
 by_cases h : op = 2
 ·subst h
  rw [if_pos rfl] at hp
  obtain ⟨v, hv, rfl⟩ := Option.map_eq_some_iff.1 hp
  obtain ⟨k1, rfl⟩ := List.getElem?_eq_some_iff.1 hv
  exact ⟨_, p60, fun f junk => ⟨[], .inr (nA0 (S.vm m f junk) a (by omega) k1 hl)⟩⟩
 rw [if_neg h] at hp
 by_cases h : op = 4
 ·subst h
  rw [if_pos rfl] at hp
  obtain ⟨v, hv, rfl⟩ := Option.map_eq_some_iff.1 hp
  obtain ⟨k1, rfl⟩ := List.getElem?_eq_some_iff.1 hv
  exact ⟨_, p80, fun f junk => ⟨[], .inr (nC0 (S.vm m f junk) a (by omega) k1 hl)⟩⟩
 rw [if_neg h] at hp
 by_cases h : op = 3
 ·subst h
  rw [if_pos rfl] at hp
  split at hp
  ·rename_i hlt
   obtain ⟨⟨s, v⟩, hv, rfl⟩ := Option.map_eq_some_iff.1 hp
   exact ⟨_, p70, fun f junk => ⟨v :: junk, .inl (nB0 (S.vm m f junk) a s v (ef0 hv) (by omega) hlt hl)⟩⟩
  ·cases hp
 rw [if_neg h] at hp
 by_cases h : op = 5
 ·subst h
  rw [if_pos rfl] at hp
  split at hp
  ·rename_i hlt
   obtain ⟨⟨s, v⟩, hv, rfl⟩ := Option.map_eq_some_iff.1 hp
   exact ⟨_, p90, fun f junk => ⟨v :: junk, .inl (nD0 (S.vm m f junk) a s v (ef0 hv) (by omega) hlt hl)⟩⟩
  ·cases hp
 rw [if_neg h] at hp
 by_cases h : op = 6
 ·subst h
  rw [if_pos rfl] at hp
  obtain ⟨⟨s, v⟩, hv, rfl⟩ := Option.map_eq_some_iff.1 hp
  exact ⟨_, qa0, fun f junk => ⟨v :: junk, .inl (nE0 (S.vm m f junk) a s v (ef0 hv) hl)⟩⟩
 rw [if_neg h] at hp
 by_cases h : op = 7
 ·subst h
  rw [if_pos rfl] at hp
  injection hp with hp; subst hp
  exact ⟨_, qb0, fun f junk => jump_does S m f junk a hf⟩
 rw [if_neg h] at hp
 by_cases h : op = 8
 ·subst h
  rw [if_pos rfl] at hp
  obtain ⟨⟨s, v⟩, hv, rfl⟩ := Option.map_eq_some_iff.1 hp
  refine ⟨_, qc0, fun f junk => ?_⟩
  have hs := ef0 hv
  simp only
  by_cases hk : v.kind = 2
  ·rw [if_pos hk]
   by_cases hn : v.num = 1
   ·rw [if_pos hn]
    exact ⟨v :: junk, .inl (p20 (S.vm m f junk) a s v hs hk hn hl)⟩
   ·rw [if_neg hn]
    unfold Fr.jump
    simp only
    by_cases h1 : a < S.at_
    ·rw [if_pos h1]
     by_cases h2 : S.fuel < 1
     ·rw [if_pos h2]
      exact ⟨v :: junk, og0 (S.vm m f junk) a s v hs hk hn hl h1 h2⟩
     ·rw [if_neg h2]
      refine ⟨v :: junk, .inl ?_⟩
      have := lf0 (S.vm m f junk) a s v hs hk hn hl (fun _ => by show 1 <= S.fuel; omega) hf.f1
      unfold VmS.jump at this
      simp only [show (S.vm m f junk).at_ = S.at_ from rfl, if_pos h1] at this
      exact this
    ·rw [if_neg h1]
     refine ⟨v :: junk, .inl ?_⟩
     have := lf0 (S.vm m f junk) a s v hs hk hn hl (fun hh => absurd hh h1) hf.f1
     unfold VmS.jump at this
     simp only [show (S.vm m f junk).at_ = S.at_ from rfl, if_neg h1] at this
     exact this
  ·rw [if_neg hk]
   exact ⟨v :: junk, of0 (S.vm m f junk) a s v hs hk hl⟩
 rw [if_neg h] at hp
 by_cases h : op = 11
 ·subst h
  rw [if_pos rfl] at hp
  injection hp with hp; subst hp
  refine ⟨_, oj0, fun f junk => ?_⟩
  by_cases h1 : S.fuel < a
  ·rw [if_pos h1]
   exact ⟨junk, oh0 (S.vm m f junk) a h1⟩
  ·rw [if_neg h1]
   exact ⟨junk, .inl (p30 (S.vm m f junk) a (by omega) (by show a <= S.fuel; omega) hf.f1)⟩
 rw [if_neg h] at hp
 obtain ⟨⟨s, vs⟩, hsp, hp⟩ := Option.bind_eq_some_iff.1 hp
 obtain ⟨rr, hr, rfl⟩ := Option.map_eq_some_iff.1 hp
 obtain ⟨hs, hlen⟩ := er0 hsp
 have hw : ∀ v ∈ vs, v.wt < 2 ^ 40 /\ -9223372036854775808 <= v.num /\ v.num < 9223372036854775808 := fun v hv => hf.vals v (by rw [hs]; simp [hv])
 simp only at hr ⊢
 match vs, hlen, hr, hw, hs with
 | [], _, hr, _, _ => cases hr
 | [x], hlen, hr, hw, hs =>
  obtain ⟨wx, nx0, nx1⟩ := hw x (by simp)
  unfold mk1 at hr; simp only at hr
  by_cases h : op = 13
  ·subst h; rw [if_pos rfl] at hr; injection hr with hr; subst hr
   exact made m ⟨13, a⟩ S s [x] _ _ ol0 (fun he f junk => ⟨_, ou0 (S.vm m f junk) a s x hs hl _ _ (ma0 x nx0 nx1) he⟩) (fun he f junk => ⟨_, nF0 (S.vm m f junk) a s x hs hl _ _ (ma0 x nx0 nx1) he⟩)
  rw [if_neg h] at hr
  by_cases h : op = 14
  ·subst h; rw [if_pos rfl] at hr; injection hr with hr; subst hr
   by_cases hk : x.kind = 2
   ·rw [if_pos hk]
    exact made m ⟨14, a⟩ S s [x] (_, 0) _ jO0 (fun he f junk => ⟨_, ow0 (S.vm m f junk) a s x hs hl hk⟩) (fun he => absurd rfl he)
   ·rw [if_neg hk]
    exact made m ⟨14, a⟩ S s [x] (_, 40) _ jO0 (fun he => absurd he (by simp)) (fun he f junk => ⟨_, nG0 (S.vm m f junk) a s x hs hl hk⟩)
  rw [if_neg h] at hr
  by_cases h : op = 15
  ·subst h; rw [if_pos rfl] at hr; injection hr with hr; subst hr
   exact made m ⟨15, a⟩ S s [x] _ _ om0 (fun he f junk => ⟨_, oy0 (S.vm m f junk) a s x hs hl _ _ (jN0 x wx) he⟩) (fun he f junk => ⟨_, nH0 (S.vm m f junk) a s x hs hl _ _ (jN0 x wx) he⟩)
  rw [if_neg h] at hr
  by_cases h : op = 16
  ·subst h; rw [if_pos rfl] at hr; injection hr with hr; subst hr
   exact made m ⟨16, a⟩ S s [x] _ _ on0 (fun he f junk => ⟨_, oA0 (S.vm m f junk) a s x hs hl _ _ (mb0 x nx0 nx1) he⟩) (fun he f junk => ⟨_, nI0 (S.vm m f junk) a s x hs hl _ _ (mb0 x nx0 nx1) he⟩)
  rw [if_neg h] at hr
  cases hr
 | [x, y], hlen, hr, hw, hs =>
  obtain ⟨wx, nx0, nx1⟩ := hw x (by simp)
  obtain ⟨wy, ny0, ny1⟩ := hw y (by simp)
  unfold mk1 at hr; simp only at hr
  by_cases h : op = 12
  ·subst h; rw [if_pos rfl] at hr; injection hr with hr; subst hr
   exact made m ⟨12, a⟩ S s [x, y] _ _ ok0 (fun he f junk => ⟨_, p40 (S.vm m f junk) a s x y hs hl _ _ (iR0 a x y wx wy nx0 nx1 ny0 ny1) he⟩) (fun he f junk => ⟨_, oi0 (S.vm m f junk) a s x y hs hl _ _ (iR0 a x y wx wy nx0 nx1 ny0 ny1) he⟩)
  rw [if_neg h] at hr
  by_cases h : op = 17
  ·subst h; rw [if_pos rfl] at hr; injection hr with hr; subst hr
   exact made m ⟨17, a⟩ S s [x, y] _ _ oo0 (fun he f junk => ⟨_, oC0 (S.vm m f junk) a s x y hs hl _ _ (jM0 x y wx wy) he⟩) (fun he f junk => ⟨_, nJ0 (S.vm m f junk) a s x y hs hl _ _ (jM0 x y wx wy) he⟩)
  rw [if_neg h] at hr
  by_cases h : op = 18
  ·subst h; rw [if_pos rfl] at hr; injection hr with hr; subst hr
   exact made m ⟨18, a⟩ S s [x, y] _ _ op0 (fun he f junk => ⟨_, oE0 (S.vm m f junk) a s x y hs hl _ _ (k90 x y wx wy) he⟩) (fun he f junk => ⟨_, nK0 (S.vm m f junk) a s x y hs hl _ _ (k90 x y wx wy) he⟩)
  rw [if_neg h] at hr
  by_cases h : op = 19
  ·subst h; rw [if_pos rfl] at hr; injection hr with hr; subst hr
   exact made m ⟨19, a⟩ S s [x, y] _ _ oq0 (fun he f junk => ⟨_, oG0 (S.vm m f junk) a s x y hs hl _ _ (iV0 x y wx wy) he⟩) (fun he f junk => ⟨_, nL0 (S.vm m f junk) a s x y hs hl _ _ (iV0 x y wx wy) he⟩)
  rw [if_neg h] at hr
  by_cases h : op = 21
  ·subst h; rw [if_pos rfl] at hr; injection hr with hr; subst hr
   exact made m ⟨21, a⟩ S s [x, y] _ _ os0 (fun he f junk => ⟨_, oK0 (S.vm m f junk) a s x y hs hl _ _ (jL0 x y wx wy) he⟩) (fun he f junk => ⟨_, nN0 (S.vm m f junk) a s x y hs hl _ _ (jL0 x y wx wy) he⟩)
  rw [if_neg h] at hr
  cases hr
 | [x, y, z], hlen, hr, hw, hs =>
  obtain ⟨wx, nx0, nx1⟩ := hw x (by simp)
  obtain ⟨wy, ny0, ny1⟩ := hw y (by simp)
  obtain ⟨wz, nz0, nz1⟩ := hw z (by simp)
  unfold mk1 at hr; simp only at hr
  by_cases h : op = 20
  ·subst h; rw [if_pos rfl] at hr; injection hr with hr; subst hr
   have hP := oc0 x y z wx wy wz
   exact made m ⟨20, a⟩ S s [x, y, z] _ _ or0 (fun he f junk => ⟨_, oI0 (S.vm m f junk) a s x y z hs hl _ (by rw [he] at hP; exact hP)⟩) (fun he f junk => ⟨_, nM0 (S.vm m f junk) a s x y z hs hl _ _ hP he⟩)
  rw [if_neg h] at hr
  cases hr
 | _ :: _ :: _ :: _ :: _, hlen, hr, _, _ => cases hr
theorem ic0 (xs : List (List V)) (o n : Nat) (h : o + n <= xs.length) (hl : n < 2 ^ 40) :
  J prog bd0 [.arr (.e 0) o n] [.row ac0 4 true xs] (· = .ret (.arr (.e 1) 0 n) [.row ac0 4 true xs, .row ac0 4 true ((xs.drop o).take n)]) := by
 refine az0 bP0 (by simp) ?_
 simp +contextual (maxSteps := 2000000) (disch := omega) [-Int.not_lt, -Int.not_le, -Nat.not_lt, -Nat.not_le, sx, a50, hpE]
 refine ⟨?_, fun hn => ?_⟩
 ·refine endR _ _ (Wk.refl _ _) [.l 7 0] (by simp) ?_
  simp +contextual (maxSteps := 2000000) (disch := omega) [-Int.not_lt, -Int.not_le, -Nat.not_lt, -Nat.not_le, sx]
 ·subst hn
  refine endR _ _ (Wk.row (s := 2) (id := .l 7 0) (ty := ac0) (sz := 4) rfl) [.l 7 0] (by simp) ?_
  simp +contextual (maxSteps := 2000000) (disch := omega) [-Int.not_lt, -Int.not_le, -Nat.not_lt, -Nat.not_le, sx]
theorem lL0 (S : Fr) (m : Mdl) (f h : Fnc) (junk : List Val) (a : Int) (s vs : List Val) (v : Val) (sts : List Val) (fuel : Int) (h0 : 0 <= a) (ha : a.toNat < m.funcs.length) (hh : m.funcs[a.toNat] = h) (hp : 0 <= h.params)
  (hfit : S.fit) (hf : 1 <= S.fuel) (hs : S.stk = s ++ vs) (hv : vs.length = h.params.toNat)
  (hcall : J prog cS0 [.bp (.e 0) 0, vI a, .arr (.e 2) 0 vs.length] (ag0 m S.sts (S.fuel - 1) ++ [.row ac0 4 true (vs.map Val.cells)]) (· = .ret v.V (ag0 m sts fuel ++ [.row ac0 4 true (vs.map Val.cells)]))) :
  J prog ct0 [.bp (.e 0) 0, vI a] (S.vm m f junk).obs (· = .ret (.tup []) (({ S with stk := s ++ [v], sts := sts, fuel := fuel } : Fr).vm m f []).obs') := by
 have hpar : m.funcs[a.toNat].params = (vs.length : Int) := by rw [hh]; omega
 have hsl : S.stk.length = s.length + vs.length := by rw [hs]; simp
 have hlen := hfit.len
 have tn : ((s.length : Int) + (vs.length : Int)).toNat - s.length = vs.length := by omega
 have htk : List.take vs.length (List.drop s.length (List.map Val.cells S.stk ++ List.map Val.cells junk)) = vs.map Val.cells := by rw [hs]; simp
 have hrow : List.map Val.cells S.stk ++ List.map Val.cells junk = List.map Val.cells s ++ (List.map Val.cells vs ++ List.map Val.cells junk) := by rw [hs]; simp
 refine az0 eb0 (by simp [VmS.obs]) ?_
 simp +contextual (maxSteps := 2000000) (disch := omega) [-Int.not_lt, -Int.not_le, -Nat.not_lt, -Nat.not_le, sx, cP0, VmS.obs, Fr.vm, hpE]
 refine ad0 [.e 1, .e 4] rfl rfl (by simp) ?_
 simp
 have hpO := cg0 m S.sts S.fuel 1 hf (by simp) hfit.f1
 try simp [VmS.obs, VmS.obs', ag0] at hpO
 refine ae0 10 hpO (by simp) ?_
 clear hpO
 simp +contextual (maxSteps := 2000000) (disch := omega) [-Int.not_lt, -Int.not_le, -Nat.not_lt, -Nat.not_le, sx, hpar, hsl, tn]
 refine ad0 [.e 3] rfl rfl (by simp) ?_
 simp
 have hpO := ic0 (List.map Val.cells S.stk ++ List.map Val.cells junk) s.length vs.length (by simp [hsl]) (by omega)
 try simp [VmS.obs, VmS.obs', ag0] at hpO
 refine ae0 35 hpO (by simp) ?_
 clear hpO
 simp +contextual (maxSteps := 2000000) (disch := omega) [-Int.not_lt, -Int.not_le, -Nat.not_lt, -Nat.not_le, sx, htk]
 refine ad0 [.e 1, .e 4, .l 35 0] rfl rfl (by simp) ?_
 simp
 have hpO := hcall
 try simp [VmS.obs, VmS.obs', ag0] at hpO
 refine ae0 52 hpO (by simp) ?_
 clear hpO
 simp +contextual (maxSteps := 2000000) (disch := omega) [-Int.not_lt, -Int.not_le, -Nat.not_lt, -Nat.not_le, sx]
 rw [hrow]
 refine ad0 [.e 0, .e 1, .e 2, .e 3, .e 4] rfl rfl (by simp) ?_
 simp
 have hpO := aC0 ⟨f, S.loc, s, vs ++ junk, S.at_, m, sts, fuel⟩ v (by simp; omega)
 try simp [VmS.obs, VmS.obs', ag0] at hpO
 refine ae0 53 hpO (by simp) ?_
 clear hpO
 simp +contextual (maxSteps := 2000000) (disch := omega) [-Int.not_lt, -Int.not_le, -Nat.not_lt, -Nat.not_le, sx]
 refine endN _ _ (Wk.refl _ _) [.l 53 0] (by simp) ?_
 simp +contextual (maxSteps := 2000000) (disch := omega) [-Int.not_lt, -Int.not_le, -Nat.not_lt, -Nat.not_le, sx, VmS.obs', Fr.vm]
theorem le0 (S : Fr) (m : Mdl) (f h : Fnc) (junk : List Val) (a : Int) (s vs : List Val) (e : Int) (sts : List Val) (fuel : Int) (h0 : 0 <= a) (ha : a.toNat < m.funcs.length) (hh : m.funcs[a.toNat] = h) (hp : 0 <= h.params)
  (hfit : S.fit) (hf : 1 <= S.fuel) (hs : S.stk = s ++ vs) (hv : vs.length = h.params.toNat)
  (hcall : J prog cS0 [.bp (.e 0) 0, vI a, .arr (.e 2) 0 vs.length] (ag0 m S.sts (S.fuel - 1) ++ [.row ac0 4 true (vs.map Val.cells)]) (· = .pan (eF0 e) (ag0 m sts fuel ++ [.row ac0 4 true (vs.map Val.cells)]))) :
  J prog ct0 [.bp (.e 0) 0, vI a] (S.vm m f junk).obs (· = .pan (eF0 e) (({ S with stk := s, sts := sts, fuel := fuel } : Fr).vm m f (vs ++ junk)).obs) := by
 have hpar : m.funcs[a.toNat].params = (vs.length : Int) := by rw [hh]; omega
 have hsl : S.stk.length = s.length + vs.length := by rw [hs]; simp
 have hlen := hfit.len
 have tn : ((s.length : Int) + (vs.length : Int)).toNat - s.length = vs.length := by omega
 have htk : List.take vs.length (List.drop s.length (List.map Val.cells S.stk ++ List.map Val.cells junk)) = vs.map Val.cells := by rw [hs]; simp
 have hrow : List.map Val.cells S.stk ++ List.map Val.cells junk = List.map Val.cells s ++ (List.map Val.cells vs ++ List.map Val.cells junk) := by rw [hs]; simp
 refine az0 eb0 (by simp [VmS.obs]) ?_
 simp +contextual (maxSteps := 2000000) (disch := omega) [-Int.not_lt, -Int.not_le, -Nat.not_lt, -Nat.not_le, sx, cP0, VmS.obs, Fr.vm, hpE]
 refine ad0 [.e 1, .e 4] rfl rfl (by simp) ?_
 simp
 have hpO := cg0 m S.sts S.fuel 1 hf (by simp) hfit.f1
 try simp [VmS.obs, VmS.obs', ag0] at hpO
 refine ae0 10 hpO (by simp) ?_
 clear hpO
 simp +contextual (maxSteps := 2000000) (disch := omega) [-Int.not_lt, -Int.not_le, -Nat.not_lt, -Nat.not_le, sx, hpar, hsl, tn]
 refine ad0 [.e 3] rfl rfl (by simp) ?_
 simp
 have hpO := ic0 (List.map Val.cells S.stk ++ List.map Val.cells junk) s.length vs.length (by simp [hsl]) (by omega)
 try simp [VmS.obs, VmS.obs', ag0] at hpO
 refine ae0 35 hpO (by simp) ?_
 clear hpO
 simp +contextual (maxSteps := 2000000) (disch := omega) [-Int.not_lt, -Int.not_le, -Nat.not_lt, -Nat.not_le, sx, htk]
 refine ad0 [.e 1, .e 4, .l 35 0] rfl rfl (by simp) ?_
 simp
 have hpO := hcall
 try simp [VmS.obs, VmS.obs', ag0] at hpO
 refine bh0 hpO ?_
 clear hpO
 simp +contextual (maxSteps := 2000000) (disch := omega) [-Int.not_lt, -Int.not_le, -Nat.not_lt, -Nat.not_le, sx]
 rw [hrow]
 refine endP ?_
 simp +contextual (maxSteps := 2000000) (disch := omega) [-Int.not_lt, -Int.not_le, -Nat.not_lt, -Nat.not_le, sx, VmS.obs, Fr.vm]
theorem ld0 (S : Fr) (m : Mdl) (f : Fnc) (junk : List Val) (a : Int) (hf : S.fuel < 1) :
  J prog ct0 [.bp (.e 0) 0, vI a] (S.vm m f junk).obs (· = .pan (eF0 54) (({ S with fuel := 0 } : Fr).vm m f junk).obs) := by
 refine az0 eb0 (by simp [VmS.obs]) ?_
 simp +contextual (maxSteps := 2000000) (disch := omega) [-Int.not_lt, -Int.not_le, -Nat.not_lt, -Nat.not_le, sx, cP0, VmS.obs, Fr.vm, hpE]
 refine ad0 [.e 1, .e 4] rfl rfl (by simp) ?_
 simp
 have hpO := cM0 m S.sts S.fuel 1 hf
 try simp [VmS.obs, VmS.obs', ag0] at hpO
 refine bh0 hpO ?_
 clear hpO
 simp +contextual (maxSteps := 2000000) (disch := omega) [-Int.not_lt, -Int.not_le, -Nat.not_lt, -Nat.not_le, sx]
 refine endP ?_
 simp +contextual (maxSteps := 2000000) (disch := omega) [-Int.not_lt, -Int.not_le, -Nat.not_lt, -Nat.not_le, sx, VmS.obs, Fr.vm]
def OutIs (m : Mdl) (row : Ob) : Out -> Res -> Prop
 | .val v sts fuel, r => r = .ret v.V (ag0 m sts fuel ++ [row])
 | .trap e sts fuel, r => r = .pan (eF0 e) (ag0 m sts fuel ++ [row])
structure Fnc.okc (f : Fnc) : Prop where
 p0 : 0 <= f.params
 pl : f.params <= f.locals
 l1 : f.locals < 2 ^ 20
 c1 : f.code.length < 2 ^ 40
def CallOk (m : Mdl) (g : Nat) : Prop := ∀ (n : Nat) (f : Fnc) (args sts : List Val) (fuel : Int) (out : Out) (hn : n < m.funcs.length), m.funcs[n] = f -> args.length <= f.locals.toNat -> run m g f (f.start args sts fuel) = some out ->
 J prog cS0 [.bp (.e 0) 0, vI n, .arr (.e 2) 0 args.length] (ag0 m sts fuel ++ [.row ac0 4 true (args.map Val.cells)]) (OutIs m (.row ac0 4 true (args.map Val.cells)) out)
theorem step_done {m : Mdl} {k : Nat} {f : Fnc} {S : Fr} {i : Ins} {out : Out} (hm : ∀ f ∈ m.funcs, f.okc) (IH : CallOk m k) (hfit : S.fit) (h10 : i.op ≠ 10)
  (hrun : (if i.op = 9 then
     if i.a < 0 then none
     else if S.fuel < 1 then some (.trap 54 S.sts 0)
     else (m.funcs[i.a.toNat]?).bind fun h => if h.params < 0 then none else (g40 S.stk h.params.toNat).bind fun p =>
      match run m k h (h.start p.2 S.sts (S.fuel - 1)) with
      | none => none
      | some (.trap e sts fuel) => some (.trap e sts fuel)
      | some (.val v sts fuel) => run m k f { S with stk := p.1 ++ [v], at_ := S.at_ + 1, sts := sts, fuel := fuel }
    else match prim m i { S with at_ := S.at_ + 1 } with
     | none => none
     | some (.trap e S') => some (.trap e S'.sts S'.fuel)
     | some (.on S') => run m k f S') = some out) :
  ∃ r, Done m i { S with at_ := S.at_ + 1 } r /\ (match r with | .on S' => run m k f S' = some out | .trap e S' => out = .trap e S'.sts S'.fuel) := by
 have hfit1 : ({ S with at_ := S.at_ + 1 } : Fr).fit := ⟨by have := hfit.a0; simp only; omega, hfit.len, hfit.f0, hfit.f1, hfit.vals⟩
 obtain ⟨op, a⟩ := i
 simp only at hrun h10
 by_cases h9 : op = 9
 ·subst h9
  rw [if_pos rfl] at hrun
  by_cases ha : a < 0
  ·rw [if_pos ha] at hrun; cases hrun
  rw [if_neg ha] at hrun
  by_cases hfu : S.fuel < 1
  ·rw [if_pos hfu] at hrun; injection hrun with hrun; subst hrun
   exact ⟨.trap 54 { S with at_ := S.at_ + 1, fuel := 0 }, ⟨_, hX0, fun f junk => ⟨junk, ld0 { S with at_ := S.at_ + 1 } m f junk a hfu⟩⟩, rfl⟩
  rw [if_neg hfu] at hrun
  obtain ⟨h, hh, hrun⟩ := Option.bind_eq_some_iff.1 hrun
  obtain ⟨hal, rfl⟩ := List.getElem?_eq_some_iff.1 hh
  by_cases hp0 : m.funcs[a.toNat].params < 0
  ·rw [if_pos hp0] at hrun; cases hrun
  rw [if_neg hp0] at hrun
  obtain ⟨⟨s, vs⟩, hsp, hrun⟩ := Option.bind_eq_some_iff.1 hrun
  obtain ⟨hs, hvl⟩ := er0 hsp
  have hok := hm _ (List.getElem_mem hal)
  have hargs : vs.length <= m.funcs[a.toNat].locals.toNat := by have := hok.pl; have := hok.p0; omega
  have ea : (a.toNat : Int) = a := by omega
  simp only at hrun
  cases hc : run m k m.funcs[a.toNat] (m.funcs[a.toNat].start vs S.sts (S.fuel - 1)) with
  | none => rw [hc] at hrun; cases hrun
  | some o =>
   rw [hc] at hrun
   have hJ := IH a.toNat _ vs S.sts (S.fuel - 1) o hal rfl hargs hc
   rw [ea] at hJ
   cases o with
   | val v sts fuel =>
    exact ⟨.on { S with stk := s ++ [v], at_ := S.at_ + 1, sts := sts, fuel := fuel }, ⟨_, hX0, fun f junk => ⟨[], .inr (lL0 { S with at_ := S.at_ + 1 } m f _ junk a s vs v sts fuel (by omega) hal rfl hok.p0 hfit1 (by show 1 <= S.fuel; omega) hs hvl hJ)⟩⟩, hrun⟩
   | trap e sts fuel =>
    injection hrun with hrun
    exact ⟨.trap e { S with stk := s, at_ := S.at_ + 1, sts := sts, fuel := fuel }, ⟨_, hX0, fun f junk => ⟨vs ++ junk, le0 { S with at_ := S.at_ + 1 } m f _ junk a s vs e sts fuel (by omega) hal rfl hok.p0 hfit1 (by show 1 <= S.fuel; omega) hs hvl hJ⟩⟩, hrun.symm⟩
 ·rw [if_neg h9] at hrun
  cases hp : prim m ⟨op, a⟩ { S with at_ := S.at_ + 1 } with
  | none => rw [hp] at hrun; cases hrun
  | some r =>
   rw [hp] at hrun
   refine ⟨r, prim_done m _ _ r hp hfit1 h9 h10, ?_⟩
   cases r with
   | on S' => exact hrun
   | trap e S' => injection hrun with hrun; exact hrun.symm
set_option maxHeartbeats 2000000 in
theorem tj0 {m : Mdl} (hm : ∀ f ∈ m.funcs, f.okc) : ∀ g, CallOk m g := by
 intro g
 induction g using Nat.strongRecOn with
 | _ g IH =>
 intro n f args sts fuel out hn hf hargs hr
 have hok := hm f (by rw [<- hf]; exact List.getElem_mem hn)
 have hcode := hok.c1
 have hl2 := hok.l1
 have hl : 0 <= f.locals := by have := hok.p0; have := hok.pl; omega
 have ha := hargs
 obtain ⟨L, hL⟩ : ∃ L : Nat, f.locals = (L : Int) := ⟨f.locals.toNat, by omega⟩
 rw [hL] at hl2 ha
 simp only [Int.toNat_natCast] at ha
 refine az0 kM0 (by simp [ag0]) ?_
 simp +contextual (maxSteps := 2000000) (disch := omega) [-Int.not_lt, -Int.not_le, -Nat.not_lt, -Nat.not_le, sx, fO0, ag0, hpE, hf, Fnc.au0 f, hL]
 refine aA0 L (fun i => [(36, vI i), (35, vI L), (7, .bp (.l 30 0) 0), (6, .bp (.l 6 0) 0), (2, .arr (.e 2) 0 args.length)])
  (fun i => [(.l 30 0, .box [.bp (.e 0) 0, vI f.params, vI L, vI f.zero, vI f.stack, .lst (f.code.map Ins.cells), .arr (.l 28 0) 0 L, .nil, vI 0]),
   (.l 28 0, .row ac0 4 true (List.replicate i (Val.int 0).cells ++ List.replicate (L - i) (Val.mk 0 0 noS []).cells)),
   (.l 6 0, .box [vI 0, vI 0, vS noS, .nil]), (.e 0, .box [.lst (m.consts.map Val.cells), .lst (m.funcs.map Fnc.cells), .arr (.e 1) 0 sts.length, vI fuel]),
   (.e 1, .row ac0 4 true (sts.map Val.cells)), (.e 2, .row ac0 4 true (args.map Val.cells))]) (Wk.subs (by simp) (by simp)) ?_
 intro i hi
 simp +contextual (maxSteps := 2000000) (disch := omega) [-Int.not_lt, -Int.not_le, -Nat.not_lt, -Nat.not_le, sx]
 refine ⟨fun hlt => ?_, fun hge => ?_⟩
 ·clear hr
  refine al0 ?_; simp; refine aa0 (cy0 0) (by simp) ?_
  simp +contextual (maxSteps := 2000000) (disch := omega) [-Int.not_lt, -Int.not_le, -Nat.not_lt, -Nat.not_le, sx]
  refine cR0 (e := (Val.mk 0 0 noS []).cells) (by rw [List.getElem?_append_right (by simp)]; simp [List.getElem?_replicate]; omega) ?_
  simp +contextual (maxSteps := 2000000) (disch := omega) [-Int.not_lt, -Int.not_le, -Nat.not_lt, -Nat.not_le, sx]
  rw [mW0 _ _ _ _ hlt]
  exact .of hlt (Wk.subs (by simp) (by simp))
 have hiL : L = i := by omega
 subst hiL
 refine ap0 (fun y : Nat × Fr × List Val => y.1) (fun y => [(7, .bp (.l 30 0) 0), (6, .bp (.l 6 0) 0)])
  (fun y => [(.l 30 0, .box [.bp (.e 0) 0, vI f.params, vI L, vI f.zero, vI f.stack, .lst (f.code.map Ins.cells), .arr (.l 28 0) 0 y.2.1.loc.length, .arr (.l 999 0) 0 y.2.1.stk.length, vI y.2.1.at_]),
   (.l 28 0, .row ac0 4 true (y.2.1.loc.map Val.cells)), (.l 999 0, .row ac0 4 true (y.2.1.stk.map Val.cells ++ y.2.2.map Val.cells)), (.l 6 0, .box [vI 0, vI 0, vS noS, .nil]),
   (.e 0, .box [.lst (m.consts.map Val.cells), .lst (m.funcs.map Fnc.cells), .arr (.e 1) 0 y.2.1.sts.length, vI y.2.1.fuel]), (.e 1, .row ac0 4 true (y.2.1.sts.map Val.cells)), (.e 2, .row ac0 4 true (args.map Val.cells))])
  (fun y => run m y.1 f y.2.1 = some out /\ y.1 <= g) (g, f.start args sts fuel, []) ⟨hr, Nat.le_refl _⟩
  (Wk.trans (Wk.subs (by simp [Fnc.start, hL]) (by simp [Fnc.start, hL]; omega)) (Wk.rowB (b := .l 30 0) (id := .l 999 0) (off := 7) (ty := ac0) (sz := 4) rfl rfl (by simp) (by simp))) ?_
 rintro ⟨k, S, junk⟩ ⟨hrun, hk⟩
 simp only at hrun hk
 cases k with
 | zero => cases hrun
 | succ k =>
 unfold run at hrun
 have hfit : S.fit := Classical.byContradiction fun h => by rw [if_neg h] at hrun; cases hrun
 rw [if_pos hfit] at hrun
 obtain ⟨ins, hci, hrun⟩ := Option.bind_eq_some_iff.1 hrun
 obtain ⟨hal, hce⟩ := List.getElem?_eq_some_iff.1 hci
 have ha0 := hfit.a0
 simp +contextual (maxSteps := 2000000) (disch := omega) [-Int.not_lt, -Int.not_le, -Nat.not_lt, -Nat.not_le, sx]
 generalize f.code[S.at_.toNat] = ins' at *
 subst hce
 refine ⟨fun h10 => ?_, fun h10 => ?_⟩
 ·rw [if_pos h10] at hrun
  obtain ⟨⟨s, v⟩, hpop, rfl⟩ := Option.map_eq_some_iff.1 hrun
  refine ad0 [.l 30 0, .e 0, .l 28 0, .l 999 0, .e 1] rfl rfl (by simp) ?_
  simp
  have hpO := as0 ⟨f, S.loc, S.stk, junk, S.at_ + 1, m, S.sts, S.fuel⟩ s v (ef0 hpop) hfit.len
  simp [VmS.obs, hL] at hpO
  refine ae0 75 hpO (by simp) ?_
  clear hpO
  simp +contextual (maxSteps := 2000000) (disch := omega) [-Int.not_lt, -Int.not_le, -Nat.not_lt, -Nat.not_le, sx]
  refine endR _ _ (Wk.refl _ _) [] (by simp) ?_
  simp +contextual (maxSteps := 2000000) (disch := omega) [-Int.not_lt, -Int.not_le, -Nat.not_lt, -Nat.not_le, sx, OutIs, ag0]
 ·rw [if_neg h10] at hrun
  obtain ⟨r, ⟨g', htab, hdo⟩, hr2⟩ := step_done hm (IH k (by omega)) hfit h10 hrun
  refine al0 ?_; simp; refine aa0 (htab) (by simp) ?_
  simp +contextual (maxSteps := 2000000) (disch := omega) [-Int.not_lt, -Int.not_le, -Nat.not_lt, -Nat.not_le, sx]
  have hD := hdo f junk
  cases r with
  | on S' =>
   obtain ⟨junk', hJ | hJ⟩ := hD
   ·refine ad0 [.l 30 0, .e 0, .l 28 0, .l 999 0, .e 1] rfl rfl (by simp) ?_
    simp
    simp [VmS.obs, Fr.vm, hL] at hJ
    refine ae0 82 hJ (by simp) ?_
    clear hJ
    simp +contextual (maxSteps := 2000000) (disch := omega) [-Int.not_lt, -Int.not_le, -Nat.not_lt, -Nat.not_le, sx]
    exact .of (k, S', junk') ⟨hr2, by omega⟩ (Nat.lt_succ_self k) (Wk.subs (by simp) (by simp))
   ·refine ad0 [.l 30 0, .e 0, .l 28 0, .l 999 0, .e 1] rfl rfl (by simp) ?_
    simp
    simp [VmS.obs, VmS.obs', Fr.vm, hL] at hJ
    refine ae0 82 hJ (by simp) ?_
    clear hJ
    simp +contextual (maxSteps := 2000000) (disch := omega) [-Int.not_lt, -Int.not_le, -Nat.not_lt, -Nat.not_le, sx]
    exact .of (k, S', junk') ⟨hr2, by omega⟩ (Nat.lt_succ_self k) (Wk.rens (.l 82 0) (.l 999 0) rfl (by simp) (by simp [renF]) (by simp [renF, bw0]))
  | trap e S' =>
   obtain ⟨junk', hJ⟩ := hD
   simp only at hr2
   subst hr2
   refine ad0 [.l 30 0, .e 0, .l 28 0, .l 999 0, .e 1] rfl rfl (by simp) ?_
   simp
   simp [VmS.obs, Fr.vm, hL] at hJ
   refine bh0 hJ ?_
   clear hJ
   simp +contextual (maxSteps := 2000000) (disch := omega) [-Int.not_lt, -Int.not_le, -Nat.not_lt, -Nat.not_le, sx]
   refine endP ?_
   simp +contextual (maxSteps := 2000000) (disch := omega) [-Int.not_lt, -Int.not_le, -Nat.not_lt, -Nat.not_le, sx, OutIs, ag0]
theorem lc0 (l : List Val) (hl : Val.wtL l < 2 ^ 40) : J prog hH0 [ay0 l] [] (· = .ret (.arr (.e 0) 0 l.length) [.row ac0 4 true (l.map Val.cells)]) := by
 have hlen := Val.be0 l
 refine az0 iD0 (by simp) ?_
 simp +contextual (maxSteps := 2000000) (disch := omega) [-Int.not_lt, -Int.not_le, -Nat.not_lt, -Nat.not_le, sx, fN0]
 refine aA0 l.length (fun i => [(8, vI i), (7, vI l.length), (6, ay0 l), (3, .arr (.l 16 0) 0 i)]) (fun i => [(.l 16 0, .row ac0 4 true ((l.take i).map Val.cells))])
  (Wk.trans (Wk.subs (by simp) (by simp)) (Wk.row (s := 3) (id := .l 16 0) (ty := ac0) (sz := 4) rfl)) ?_
 intro i hi
 simp +contextual (maxSteps := 2000000) (disch := omega) [-Int.not_lt, -Int.not_le, -Nat.not_lt, -Nat.not_le, sx]
 refine ⟨fun hlt => ?_, fun hge => ?_⟩
 ·refine ab0 ?_; simp; refine aa0 (aW0 _ (Val.gy0 hl)) (by simp) ?_
  simp +contextual (maxSteps := 2000000) (disch := omega) [-Int.not_lt, -Int.not_le, -Nat.not_lt, -Nat.not_le, sx]
  exact .of hlt (Wk.subs (by simp) (by simp))
 ·have : i = l.length := by omega
  subst this
  refine endR _ _ (Wk.refl _ _) [.l 16 0] (by simp) ?_
  simp +contextual (maxSteps := 2000000) (disch := omega) [-Int.not_lt, -Int.not_le, -Nat.not_lt, -Nat.not_le, sx]
theorem p00 (l : List Val) (hl : Val.wtL l < 2 ^ 40) : J prog hH0 [.arr (.e 0) 0 l.length] [.row ac0 4 true (l.map Val.cells)] (· = .ret (.arr (.e 1) 0 l.length) [.row ac0 4 true (l.map Val.cells), .row ac0 4 true (l.map Val.cells)]) := by
 have hlen := Val.be0 l
 refine az0 iD0 (by simp) ?_
 simp +contextual (maxSteps := 2000000) (disch := omega) [-Int.not_lt, -Int.not_le, -Nat.not_lt, -Nat.not_le, sx, fN0, hpE]
 refine aA0 l.length (fun i => [(8, vI i), (7, vI l.length), (6, .arr (.e 0) 0 l.length), (3, .arr (.l 16 0) 0 i)]) (fun i => [(.l 16 0, .row ac0 4 true ((l.take i).map Val.cells)), (.e 0, .row ac0 4 true (l.map Val.cells))])
  (Wk.trans (Wk.subs (by simp) (by simp)) (Wk.row (s := 3) (id := .l 16 0) (ty := ac0) (sz := 4) rfl)) ?_
 intro i hi
 simp +contextual (maxSteps := 2000000) (disch := omega) [-Int.not_lt, -Int.not_le, -Nat.not_lt, -Nat.not_le, sx]
 refine ⟨fun hlt => ?_, fun hge => ?_⟩
 ·refine ab0 ?_; simp; refine aa0 (aW0 _ (Val.gy0 hl)) (by simp) ?_
  simp +contextual (maxSteps := 2000000) (disch := omega) [-Int.not_lt, -Int.not_le, -Nat.not_lt, -Nat.not_le, sx]
  exact .of hlt (Wk.subs (by simp) (by simp))
 ·have : i = l.length := by omega
  subst this
  refine endR _ _ (Wk.refl _ _) [.l 16 0] (by simp) ?_
  simp +contextual (maxSteps := 2000000) (disch := omega) [-Int.not_lt, -Int.not_le, -Nat.not_lt, -Nat.not_le, sx]
abbrev machB (m : Mdl) (n : Nat) (row : Id) (fuel : Int) : Ob := .box [.lst (m.consts.map Val.cells), .lst (m.funcs.map Fnc.cells), .arr row 0 n, vI fuel]
abbrev sf0 (states : List Val) (out : V) (told : List V) (m : Mdl) (sts : List Val) (fuel : Int) : List Ob :=
 [.box [ay0 states], .box [.bp (.e 4) 0], .box [out], .box told, machB m sts.length (.e 5) fuel, .row ac0 4 true (sts.map Val.cells)]
abbrev dfrArgs : List V := [.bp (.e 0) 0, .bp (.e 1) 0, .bp (.e 2) 0, .bp (.e 3) 0]
theorem pX0 (states o : List Val) (v : Val) (e' f' : Int) (m : Mdl) (sts : List Val) (fuel : Int) :
  JD prog true ln0 dfrArgs (sf0 states (ay0 o) [vI v.kind, vI v.num, vS v.text, ay0 v.list, vI e', vI f'] m sts fuel) none (· = .ret (.tup []) (sf0 states (ay0 o) [vI v.kind, vI v.num, vS v.text, ay0 v.list, vI e', vI f'] m sts fuel)) := by
 refine JR_of m50 (by simp) (by simp) ?_
 simp +contextual (maxSteps := 2000000) (disch := omega) [-Int.not_lt, -Int.not_le, -Nat.not_lt, -Nat.not_le, sx, jS0, hpE, pvV]
 refine endN _ _ (Wk.refl _ _) [] (by simp) ?_
 simp +contextual (maxSteps := 2000000) (disch := omega) [-Int.not_lt, -Int.not_le, -Nat.not_lt, -Nat.not_le, sx]
theorem pY0 (states : List Val) (hw : Val.wtL states < 2 ^ 40) (m : Mdl) (sts : List Val) (e fuel : Int) :
  JD prog true ln0 dfrArgs (sf0 states .nil [vI 0, vI 0, vS noS, .nil, vI 0, vI 0] m sts fuel) (some (eF0 e)) (· = .ret (.tup []) (sf0 states (ay0 states) [vI 0, vI 0, vS noS, .nil, vI e, vI fuel] m sts fuel)) := by
 refine JR_of m50 (by simp) (by simp) ?_
 simp +contextual (maxSteps := 2000000) (disch := omega) [-Int.not_lt, -Int.not_le, -Nat.not_lt, -Nat.not_le, sx, jS0, hpE, pvV]
 refine al0 ?_; simp; refine aa0 (od0 states hw) (by simp) ?_
 simp +contextual (maxSteps := 2000000) (disch := omega) [-Int.not_lt, -Int.not_le, -Nat.not_lt, -Nat.not_le, sx]
 refine endN _ _ (Wk.refl _ _) [] (by simp) ?_
 simp +contextual (maxSteps := 2000000) (disch := omega) [-Int.not_lt, -Int.not_le, -Nat.not_lt, -Nat.not_le, sx]
end Go.Am
end
