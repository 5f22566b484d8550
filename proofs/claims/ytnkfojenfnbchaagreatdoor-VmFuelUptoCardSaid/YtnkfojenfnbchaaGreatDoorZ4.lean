/- VmFuel of the given program, part 4 of 6 of the proof: for all arguments within the bound the law answers true, and each argument reads behind the call as before. Conditions: those of the given card. -/
import Derived.Test.YtnkfojenfnbchaaGreatDoorZ3
import Derived.Lib.Bytealg
import Derived.Defers
import Derived.Recover
import Derived.Lib.Overlaps
import Derived.Shelf.Strconv.Itoa4
import Derived.Test.YtnkfojenfnbchaaGreatDoorProg
set_option linter.all false
set_option linter.unusedVariables false
set_option linter.unusedSimpArgs false
set_option linter.unnecessarySimpa false
section
namespace Go.Am
variable {P : Program} {n : Nat} {env : Env} {hp : Hp}
attribute [simp] vcOp_alloc vcOp_call ne_alloc ne_call vcI_none vcIs_nil neG_none vcD_nil vcDp_nil vc_skip vc_blk_h vc_exit vc_ret vc_loop thenQ_normal thenQ_exit thenQ_ret thenQ_pan blkQ_normal blkQ_exit blkQ_ret blkQ_pan pvK_mv resV_nil
section
variable {K : V → Prop} {Ks : List V → Prop} {Ki : IntKind → Int → Prop}
@[simp] theorem lookK_cons {s t : Nat} {v : V} {e : Env} : lookK ((s, v) :: e) t K = if t = s then K v else lookK e t K := _root_.id rfl
@[simp] theorem lookK_nil {t : Nat} : lookK [] t K = False := _root_.id rfl
@[simp] theorem evK_tmp {t} : evK env (.tmp t) K = lookK env t K := _root_.id rfl
@[simp] theorem evK_const {c} : evK env (.const c) K = K (ofConst c) := _root_.id rfl
@[simp] theorem evK_func {f} : evK env (.func f) K = K (.fn f []) := _root_.id rfl
@[simp] theorem evsK_nil : evsK env [] Ks = Ks [] := _root_.id rfl
theorem evsK_cons {x xs} : evsK env (x :: xs) Ks = evK env x fun v => evsK env xs fun vs => Ks (v :: vs) := _root_.id rfl
@[simp] theorem evsK_cons_h {x xs} : evsK env (x :: xs) Ks = evK env x (hold fun v => evsK env xs (hold fun vs => Ks (v :: vs))) := evsK_cons
@[simp] theorem nthK_zero {v vs} : nthK (v :: vs) 0 K = K v := _root_.id rfl
@[simp] theorem nthK_succ {v vs m} : nthK (v :: vs) (m + 1) K = nthK vs m K := _root_.id rfl
@[simp] theorem objK_cons {i j : Id} {o : Ob} {Ko : Ob → Prop} : objK ((i, o) :: hp) j Ko = if j = i then Ko o else objK hp j Ko := _root_.id rfl
@[simp] theorem objK_nil {j : Id} {Ko : Ob → Prop} : objK [] j Ko = False := _root_.id rfl
@[simp] theorem boxK_box {cs} : boxK (.box cs) Ks = Ks cs := _root_.id rfl
@[simp] theorem rowK_row {ty sz own xs Kr} : rowK (.row ty sz own xs) Kr = Kr ty sz own xs := _root_.id rfl
@[simp] theorem boolK_bool {b} {Kb : Bool → Prop} : boolK (.c (.bool b)) Kb = Kb b := _root_.id rfl
@[simp] theorem intK_int {k m} : intK (.c (.int k m)) Ki = Ki k m := _root_.id rfl
@[simp] theorem strK_string {s} {Kb : ByteArray → Prop} : strK (.c (.string s)) Kb = Kb s := _root_.id rfl
@[simp] theorem aggK_agg {cs} : aggK (.agg cs) Ks = Ks cs := _root_.id rfl
@[simp] theorem fnK_fn {f cs} {Kf : Nat → List V → Prop} : fnK (.fn f cs) Kf = Kf f cs := _root_.id rfl
@[simp] theorem ifcK_ifc {t v} {Kf : Nat → V → Prop} : ifcK (.ifc t v) Kf = Kf t v := _root_.id rfl
@[simp] theorem cellsK_agg {cs} : cellsK (.agg cs) Ks = Ks cs := by simp [cellsK, V.cells]
@[simp] theorem cellsK_int {k m} : cellsK (.c (.int k m)) Ks = Ks [.c (.int k m)] := by simp [cellsK, V.cells]
@[simp] theorem cellsK_bool {b} : cellsK (.c (.bool b)) Ks = Ks [.c (.bool b)] := by simp [cellsK, V.cells]
@[simp] theorem cellsK_string {b} : cellsK (.c (.string b)) Ks = Ks [.c (.string b)] := by simp [cellsK, V.cells]
@[simp] theorem cellsK_nil : cellsK .nil Ks = Ks [.nil] := by simp [cellsK, V.cells]
@[simp] theorem cellsK_lst {xs} : cellsK (.lst xs) Ks = Ks [.lst xs] := by simp [cellsK, V.cells]
@[simp] theorem cellsK_bp {i o} : cellsK (.bp i o) Ks = Ks [.bp i o] := by simp [cellsK, V.cells]
@[simp] theorem cellsK_arr {i o m} : cellsK (.arr i o m) Ks = Ks [.arr i o m] := by simp [cellsK, V.cells]
@[simp] theorem cellsLK_nil {Kl : List (List V) → Prop} : cellsLK [] Kl = Kl [] := by simp [cellsLK]
theorem cellsLK_cons {v vs} {Kl : List (List V) → Prop} : cellsLK (v :: vs) Kl = cellsK v fun us => cellsLK vs fun uss => Kl (us :: uss) := by
  simp only [cellsLK, cellsK, List.mapM_cons]; apply propext
  constructor
  · rintro ⟨els, h1, h2⟩
    simp only [Option.bind_eq_bind, Option.bind_eq_some_iff, Option.pure_def, Option.some.injEq] at h1
    obtain ⟨v, h1, us, h3, rfl⟩ := h1
    exact ⟨v, h1, us, h3, h2⟩
  · rintro ⟨us, h1, uss, h2, h3⟩; exact ⟨us :: uss, by simp [h1, h2], h3⟩
@[simp] theorem cellsLK_cons_h {v vs} {Kl : List (List V) → Prop} : cellsLK (v :: vs) Kl = cellsK v (hold fun us => cellsLK vs (hold fun uss => Kl (us :: uss))) := cellsLK_cons
@[simp] theorem ldK_rp {cs} : ldK hp (.rp cs) K = nthK cs 0 K := _root_.id rfl
theorem ldK_bp {i off} : ldK hp (.bp i off) K = objK hp i fun o => boxK o fun cs => nthK cs off K := _root_.id rfl
@[simp] theorem ldK_bp_h {i off} : ldK hp (.bp i off) K = objK hp i (hold fun o => boxK o (hold fun cs => nthK cs off K)) := ldK_bp
theorem ldK_ep {i k off} : ldK hp (.ep i k off) K = objK hp i fun o => rowK o fun _ _ _ xs => elemK xs k fun e => nthK e off K := _root_.id rfl
@[simp] theorem ldK_ep_h {i k off} : ldK hp (.ep i k off) K = objK hp i (hold fun o => rowK o (hold fun _ _ _ xs => elemK xs k (hold fun e => nthK e off K))) := ldK_ep
@[simp] theorem ldaK_rp {sz cs} : ldaK hp sz (.rp cs) K = (sz ≤ cs.length ∧ K (.agg (cs.take sz))) := _root_.id rfl
theorem ldaK_bp {sz i off} : ldaK hp sz (.bp i off) K = objK hp i fun o => boxK o fun cs => off + sz ≤ cs.length ∧ K (.agg ((cs.drop off).take sz)) := _root_.id rfl
@[simp] theorem ldaK_bp_h {sz i off} : ldaK hp sz (.bp i off) K = objK hp i (hold fun o => boxK o (hold fun cs => off + sz ≤ cs.length ∧ K (.agg ((cs.drop off).take sz)))) := ldaK_bp
theorem ldaK_ep {sz i k off} : ldaK hp sz (.ep i k off) K = objK hp i fun o => rowK o fun _ _ _ xs => elemK xs k fun e => off + sz ≤ e.length ∧ K (.agg ((e.drop off).take sz)) := _root_.id rfl
@[simp] theorem ldaK_ep_h {sz i k off} : ldaK hp sz (.ep i k off) K = objK hp i (hold fun o => rowK o (hold fun _ _ _ xs => elemK xs k (hold fun e => off + sz ≤ e.length ∧ K (.agg ((e.drop off).take sz))))) := ldaK_ep
theorem iaK_lst {sz xs i} : iaK hp sz (.lst xs) i K = (0 ≤ i ∧ elemK xs i.toNat fun e => e.length = sz ∧ K (.rp e)) := _root_.id rfl
@[simp] theorem iaK_lst_h {sz xs i} : iaK hp sz (.lst xs) i K = (0 ≤ i ∧ elemK xs i.toNat (hold fun e => e.length = sz ∧ K (.rp e))) := iaK_lst
theorem iaK_arr {sz id o m i} : iaK hp sz (.arr id o m) i K = (0 ≤ i ∧ i < m ∧ objK hp id fun ob => rowK ob fun _ sz' _ _ => sz' = sz ∧ K (.ep id (o + i.toNat) 0)) := _root_.id rfl
@[simp] theorem iaK_arr_h {sz id o m i} : iaK hp sz (.arr id o m) i K = (0 ≤ i ∧ i < m ∧ objK hp id (hold fun ob => rowK ob (hold fun _ sz' _ _ => sz' = sz ∧ K (.ep id (o + i.toNat) 0)))) := iaK_arr
theorem stK_bp {us i off} {Kh : Hp → Prop} : stK hp us (.bp i off) Kh = objK hp i fun o => boxK o fun cs => off + us.length ≤ cs.length ∧ Kh (Hp.set i (.box (setAt cs off us)) hp) := _root_.id rfl
@[simp] theorem stK_bp_h {us i off} {Kh : Hp → Prop} : stK hp us (.bp i off) Kh = objK hp i (hold fun o => boxK o (hold fun cs => off + us.length ≤ cs.length ∧ Kh (Hp.set i (.box (setAt cs off us)) hp))) := stK_bp
theorem stK_ep {us i k off} {Kh : Hp → Prop} : stK hp us (.ep i k off) Kh = objK hp i fun o => rowK o fun ty sz own xs => own = true ∧ elemK xs k fun e => off + us.length ≤ e.length ∧ V.pureL us = true ∧ Kh (Hp.set i (.row ty sz true (xs.set k (setAt e off us))) hp) := _root_.id rfl
@[simp] theorem stK_ep_h {us i k off} {Kh : Hp → Prop} : stK hp us (.ep i k off) Kh = objK hp i (hold fun o => rowK o (hold fun ty sz own xs => own = true ∧ elemK xs k (hold fun e => off + us.length ≤ e.length ∧ V.pureL us = true ∧ Kh (Hp.set i (.row ty sz true (xs.set k (setAt e off us))) hp)))) := stK_ep
@[simp] theorem srcK_lst {sz ys} {Kl : List (List V) → Prop} : srcK hp sz (.lst ys) Kl = ((ys = [] ∨ ∃ e, ys[0]? = some e ∧ e.length = sz) ∧ Kl ys) := _root_.id rfl
theorem srcK_arr {sz j o m} {Kl : List (List V) → Prop} : srcK hp sz (.arr j o m) Kl = objK hp j fun ob => rowK ob fun _ sz' _ xs => sz' = sz ∧ o + m ≤ xs.length ∧ Kl ((xs.drop o).take m) := _root_.id rfl
@[simp] theorem srcK_arr_h {sz j o m} {Kl : List (List V) → Prop} : srcK hp sz (.arr j o m) Kl = objK hp j (hold fun ob => rowK ob (hold fun _ sz' _ xs => sz' = sz ∧ o + m ≤ xs.length ∧ Kl ((xs.drop o).take m))) := srcK_arr
section
variable {ty sz bytes d : Nat} {u : V} {Kf : Env → Hp → Prop}
theorem appK_arr {i o m} : appK env hp ty sz bytes d (.arr i o m) u Kf = (o = 0 ∧ objK hp i fun ob => rowK ob fun ty' sz' own xs => ty' = ty ∧ sz' = sz ∧ own = true ∧ m ≤ xs.length ∧ srcK hp sz u fun es => (m + es.length) * bytes ≤ 140737488355328 ∧
      Kf ((Env.kill (.l d 0) env).put (some d) (.arr (.l d 0) 0 (m + es.length))) ((.l d 0, .row ty sz true (xs.take m ++ es)) :: Hp.kill (.l d 0) (Hp.set i .gone hp))) := _root_.id rfl
@[simp] theorem appK_arr_h {i o m} : appK env hp ty sz bytes d (.arr i o m) u Kf = (o = 0 ∧ objK hp i (hold fun ob => rowK ob (hold fun ty' sz' own xs => ty' = ty ∧ sz' = sz ∧ own = true ∧ m ≤ xs.length ∧ srcK hp sz u (hold fun es => (m + es.length) * bytes ≤ 140737488355328 ∧
      Kf ((Env.kill (.l d 0) env).put (some d) (.arr (.l d 0) 0 (m + es.length))) ((.l d 0, .row ty sz true (xs.take m ++ es)) :: Hp.kill (.l d 0) (Hp.set i .gone hp)))))) := appK_arr
end
section
variable {ty sz bytes d : Nat} {u : V} {Kf : Env → Hp → Prop}
theorem appK_arc {i o m c} : appK env hp ty sz bytes d (.arc i o m c) u Kf = srcK hp sz u.unarc fun es => o = 0 ∧ m ≤ c ∧ objK hp i fun ob => rowK ob fun ty' sz' own xs => ty' = ty ∧ sz' = sz ∧ own = true ∧ c ≤ xs.length ∧
      iteK (decide (m + es.length ≤ c)) (0 < c ∧ Kf (env.put (some d) (.arc i 0 (m + es.length) c)) (Hp.set i (.row ty sz true (xs.take m ++ es ++ xs.drop (m + es.length))) hp))
        ((m + es.length) * bytes ≤ 140737488355328 ∧ Kf ((Env.kill (.l d 0) env).put (some d) (.arr (.l d 0) 0 (m + es.length))) ((.l d 0, .row ty sz true (xs.take m ++ es)) :: Hp.kill (.l d 0) hp)) := by
  simp only [appK, iteK, decide_eq_true_eq, decide_eq_false_iff_not]
@[simp] theorem appK_arc_h {i o m c} : appK env hp ty sz bytes d (.arc i o m c) u Kf = srcK hp sz u.unarc (hold fun es => o = 0 ∧ m ≤ c ∧ objK hp i (hold fun ob => rowK ob (hold fun ty' sz' own xs => ty' = ty ∧ sz' = sz ∧ own = true ∧ c ≤ xs.length ∧
      iteK (decide (m + es.length ≤ c)) (hold (0 < c ∧ Kf (env.put (some d) (.arc i 0 (m + es.length) c)) (Hp.set i (.row ty sz true (xs.take m ++ es ++ xs.drop (m + es.length))) hp)))
        (hold ((m + es.length) * bytes ≤ 140737488355328 ∧ Kf ((Env.kill (.l d 0) env).put (some d) (.arr (.l d 0) 0 (m + es.length))) ((.l d 0, .row ty sz true (xs.take m ++ es)) :: Hp.kill (.l d 0) hp)))))) := appK_arc
theorem appz_arc {z i o m c k v} : arcAppzV env hp ty sz bytes z d (.arc i o m c) (.c (.int k v)) Kf = (0 ≤ v ∧ v ≤ 140737488355328 ∧ ¬ m + v.toNat ≤ c ∧ o = 0 ∧ m ≤ c ∧ objK hp i fun ob => rowK ob fun ty' sz' own xs => ty' = ty ∧ sz' = sz ∧ own = true ∧ c ≤ xs.length ∧
      (m + v.toNat) * bytes ≤ 140737488355328 ∧ Kf ((Env.kill (.l d 0) env).put (some d) (.arr (.l d 0) 0 (m + v.toNat))) ((.l d 0, .row ty sz true (xs.take m ++ List.replicate v.toNat z)) :: Hp.kill (.l d 0) hp)) := by
  simp only [arcAppzV, arcV_row, rowK_eq, List.length_replicate]
  apply propext
  constructor
  · rintro ⟨h1, h2, ⟨h3, h4, ty', sz', own, xs, h5, h6, h7, h8, h9, h10, h11⟩, h12⟩
    exact ⟨h1, h2, h12, h3, h4, ty', sz', own, xs, h5, h6, h7, h8, h9, h11 h12⟩
  · rintro ⟨h1, h2, h12, h3, h4, ty', sz', own, xs, h5, h6, h7, h8, h9, h11⟩
    exact ⟨h1, h2, ⟨h3, h4, ty', sz', own, xs, h5, h6, h7, h8, h9, fun h => absurd h h12, fun _ => h11⟩, h12⟩
@[simp] theorem appz_arc_h {z i o m c k v} : arcAppzV env hp ty sz bytes z d (.arc i o m c) (.c (.int k v)) Kf = (0 ≤ v ∧ v ≤ 140737488355328 ∧ ¬ m + v.toNat ≤ c ∧ o = 0 ∧ m ≤ c ∧ objK hp i (hold fun ob => rowK ob (hold fun ty' sz' own xs => ty' = ty ∧ sz' = sz ∧ own = true ∧ c ≤ xs.length ∧
      (m + v.toNat) * bytes ≤ 140737488355328 ∧ Kf ((Env.kill (.l d 0) env).put (some d) (.arr (.l d 0) 0 (m + v.toNat))) ((.l d 0, .row ty sz true (xs.take m ++ List.replicate v.toNat z)) :: Hp.kill (.l d 0) hp)))) := appz_arc
end
@[simp] theorem unarc_arc {i o m c} : V.unarc (.arc i o m c) = .arr i o m := _root_.id rfl
@[simp] theorem unarc_arr {i o m} : V.unarc (.arr i o m) = .arr i o m := _root_.id rfl
section
variable {Kc : Int → Hp → Prop} {Kh : Hp → Prop}
theorem cpy_arr0 {sz i o m u} : cpyV hp sz (.arr i o m) u Kc = objK hp i fun ob => rowK ob fun ty sz' own xs => sz' = sz ∧ own = true ∧ srcK hp sz u.unarc fun es => o + min es.length m ≤ xs.length ∧ Kc (min es.length m : Nat) (Hp.set i (.row ty sz true (xs.take o ++ es.take (min es.length m) ++ xs.drop (o + min es.length m))) hp) := by
  rw [rowK_eq]
  simp only [cpyV, V.unarc, srcK_eq]
  apply propext
  constructor
  · rintro ⟨ty, xs, h1, h2⟩; exact ⟨ty, sz, true, xs, h1, rfl, rfl, h2⟩
  · rintro ⟨ty, sz', own, xs, h1, rfl, rfl, h2⟩; exact ⟨ty, xs, h1, h2⟩
@[simp] theorem cpy_arr {sz i o m u} : cpyV hp sz (.arr i o m) u Kc = objK hp i (hold fun ob => rowK ob (hold fun ty sz' own xs => sz' = sz ∧ own = true ∧ srcK hp sz u.unarc (hold fun es => o + min es.length m ≤ xs.length ∧ Kc (min es.length m : Nat) (Hp.set i (.row ty sz true (xs.take o ++ es.take (min es.length m) ++ xs.drop (o + min es.length m))) hp)))) := cpy_arr0
@[simp] theorem cpy_arc {sz i o m c u} : cpyV hp sz (.arc i o m c) u Kc = cpyV hp sz (.arr i o m) u Kc := _root_.id rfl
theorem mput_mp0 {kd i kv x} : mputV hp kd (.mp i) (.c kv) x Kh = (isKey kd kv = true ∧ x.pure = true ∧ objK hp i fun ob => mpoK ob fun kd' kvs => kd' = kd ∧ Kh (Hp.set i (.mpo kd (mset kv x kvs)) hp)) := by
  rw [mpoK_eq]
  simp only [mputV]
  apply propext
  constructor
  · rintro ⟨h1, h2, kvs, h3, h4⟩; exact ⟨h1, h2, kd, kvs, h3, rfl, h4⟩
  · rintro ⟨h1, h2, kd', kvs, h3, rfl, h4⟩; exact ⟨h1, h2, kvs, h3, h4⟩
@[simp] theorem mput_mp {kd i kv x} : mputV hp kd (.mp i) (.c kv) x Kh = (isKey kd kv = true ∧ x.pure = true ∧ objK hp i (hold fun ob => mpoK ob (hold fun kd' kvs => kd' = kd ∧ Kh (Hp.set i (.mpo kd (mset kv x kvs)) hp)))) := mput_mp0
theorem mget_mp0 {kd z ok i kv} : mgetV hp kd z ok (.mp i) (.c kv) K = (isKey kd kv = true ∧ objK hp i fun ob => mpoK ob fun kd' kvs => kd' = kd ∧ mfindK kv kvs (mres z ok K)) := by
  rw [mpoK_eq]
  simp only [mgetV]
  apply propext
  constructor
  · rintro ⟨h1, kvs, h3, h4⟩; exact ⟨h1, kd, kvs, h3, rfl, h4⟩
  · rintro ⟨h1, kd', kvs, h3, rfl, h4⟩; exact ⟨h1, kvs, h3, h4⟩
@[simp] theorem mget_mp {kd z ok i kv} : mgetV hp kd z ok (.mp i) (.c kv) K = (isKey kd kv = true ∧ objK hp i (hold fun ob => mpoK ob (hold fun kd' kvs => kd' = kd ∧ mfindK kv kvs (hold (mres z ok K))))) := mget_mp0
theorem clr_arr0 {sz z i o m} : clrV hp sz z (.arr i o m) Kh = (0 < m ∧ objK hp i fun ob => rowK ob fun ty sz' own xs => sz' = sz ∧ own = true ∧ o + m ≤ xs.length ∧ Kh (Hp.set i (.row ty sz true (xs.take o ++ List.replicate m z ++ xs.drop (o + m))) hp)) := by
  rw [rowK_eq]
  simp only [clrV, V.unarc]
  apply propext
  constructor
  · rintro ⟨h0, ty, xs, h1, h2⟩; exact ⟨h0, ty, sz, true, xs, h1, rfl, rfl, h2⟩
  · rintro ⟨h0, ty, sz', own, xs, h1, rfl, rfl, h2⟩; exact ⟨h0, ty, xs, h1, h2⟩
@[simp] theorem clr_arr {sz z i o m} : clrV hp sz z (.arr i o m) Kh = (0 < m ∧ objK hp i (hold fun ob => rowK ob (hold fun ty sz' own xs => sz' = sz ∧ own = true ∧ o + m ≤ xs.length ∧ Kh (Hp.set i (.row ty sz true (xs.take o ++ List.replicate m z ++ xs.drop (o + m))) hp)))) := clr_arr0
@[simp] theorem clr_arc {sz z i o m c} : clrV hp sz z (.arc i o m c) Kh = clrV hp sz z (.arr i o m) Kh := _root_.id rfl
end
@[simp] theorem mpoK_mpo {kd kvs} {Km : Option IntKind → List (Value × V) → Prop} : mpoK (.mpo kd kvs) Km = Km kd kvs := _root_.id rfl
@[simp] theorem mfindK_nil {k} {Ko : Option V → Prop} : mfindK k [] Ko = Ko none := _root_.id rfl
theorem mfindK_cons0 {k k' v es} {Ko : Option V → Prop} : mfindK k ((k', v) :: es) Ko = iteK (keyEq k k') (Ko (some v)) (mfindK k es Ko) := _root_.id rfl
@[simp] theorem mfindK_cons {k k' v es} {Ko : Option V → Prop} : mfindK k ((k', v) :: es) Ko = iteK (keyEq k k') (hold (Ko (some v))) (hold (mfindK k es Ko)) := mfindK_cons0
@[simp] theorem mset_nil {k v} : mset k v [] = [(k, v)] := _root_.id rfl
@[simp] theorem mset_cons {k v k' u es} : mset k v ((k', u) :: es) = if keyEq k k' then (k', v) :: es else (k', u) :: mset k v es := _root_.id rfl
@[simp] theorem mres_none {z ok} : mres z ok K none = K (if ok then .tup [ofConst z, .c (.bool false)] else ofConst z) := _root_.id rfl
@[simp] theorem mres_some {z ok v} : mres z ok K (some v) = K (if ok then .tup [v, .c (.bool true)] else v) := _root_.id rfl
@[simp] theorem sl3_arc {i o m c lo hi mx} : sl3V (.arc i o m c) lo hi mx K = intO mx 0 (hold fun q => intO hi 0 (hold fun h => intO lo 0 (hold fun l => 0 ≤ l ∧ l ≤ h ∧ h ≤ q ∧ q ≤ c ∧ K .any))) := _root_.id rfl
@[simp] theorem capV_arc {i o m c} {Kb : Int → Prop} : capV (.arc i o m c) Kb = Kb c := _root_.id rfl
@[simp] theorem lenV_arc {i o m c} : lenV (.arc i o m c) K = K (.c (.int .i64 (m : Int))) := _root_.id rfl
theorem slLV_arc {sz id o m q lo hi} : slLV hp sz (.arc id o m q) lo hi K = objK hp id fun ob => rowK ob fun _ sz' _ _ => sz' = sz ∧ intO hi m fun h => intO lo 0 fun l => 0 ≤ l ∧ l ≤ h ∧ h ≤ q ∧ K (.arc id (o + l.toNat) (h.toNat - l.toNat) (q - l.toNat)) := by
  rw [rowK_eq]; simp only [slLV]
  apply propext
  constructor
  · rintro ⟨⟨ty, own, xs, h1⟩, h2⟩; exact ⟨ty, sz, own, xs, h1, rfl, h2⟩
  · rintro ⟨ty, sz', own, xs, h1, rfl, h2⟩; exact ⟨⟨ty, own, xs, h1⟩, h2⟩
@[simp] theorem slLV_arc_h {sz id o m q lo hi} : slLV hp sz (.arc id o m q) lo hi K = objK hp id (hold fun ob => rowK ob (hold fun _ sz' _ _ => sz' = sz ∧ intO hi m (hold fun h => intO lo 0 (hold fun l => 0 ≤ l ∧ l ≤ h ∧ h ≤ q ∧ K (.arc id (o + l.toNat) (h.toNat - l.toNat) (q - l.toNat)))))) := slLV_arc
@[simp] theorem isnlV_lst {xs} {Kb : Bool → Prop} : isnlV (.lst xs) Kb = (Kb false ∧ (xs = [] ∨ xs[0]? = some [] → Kb true)) := _root_.id rfl
@[simp] theorem isnlV_arr {i o m} {Kb : Bool → Prop} : isnlV (.arr i o m) Kb = (Kb false ∧ (m = 0 → Kb true)) := _root_.id rfl
@[simp] theorem nchkV_bp {i o} : nchkV (.bp i o) K = K (.bp i o) := _root_.id rfl
@[simp] theorem faV_bp {off i o} : faV off (.bp i o) K = K (.bp i (o + off)) := _root_.id rfl
@[simp] theorem faV_rp {off cs} : faV off (.rp cs) K = K (.rp (cs.drop off)) := _root_.id rfl
@[simp] theorem extV_tup {i cs} : extV i (.tup cs) K = nthK cs i K := by simp only [extV, nthK_eq]
@[simp] theorem lenV_nil : lenV .nil K = K (.c (.int .i64 0)) := _root_.id rfl
@[simp] theorem lenV_lst {xs} : lenV (.lst xs) K = K (.c (.int .i64 (xs.length : Int))) := _root_.id rfl
@[simp] theorem lenV_arr {i o m} : lenV (.arr i o m) K = K (.c (.int .i64 (m : Int))) := _root_.id rfl
section
variable {k : IntKind} {a b : Int}
@[simp] theorem bin_add : binV .add (.c (.int k a)) (.c (.int k b)) K = K (.c (.int k (k.wrap (a + b)))) := by simp [binV, binI]
@[simp] theorem bin_sub : binV .sub (.c (.int k a)) (.c (.int k b)) K = K (.c (.int k (k.wrap (a - b)))) := by simp [binV, binI]
@[simp] theorem bin_mul : binV .mul (.c (.int k a)) (.c (.int k b)) K = K (.c (.int k (k.wrap (a * b)))) := by simp [binV, binI]
@[simp] theorem bin_quo : binV .quo (.c (.int k a)) (.c (.int k b)) K = (b ≠ 0 ∧ K (.c (.int k (k.wrap (a.tdiv b))))) := by simp [binV, binI]
@[simp] theorem bin_rem : binV .rem (.c (.int k a)) (.c (.int k b)) K = (b ≠ 0 ∧ K (.c (.int k (a.tmod b)))) := by simp [binV, binI]
@[simp] theorem bin_eql : binV .eql (.c (.int k a)) (.c (.int k b)) K = K (.c (.bool (a == b))) := by simp [binV, binI]
@[simp] theorem bin_neq : binV .neq (.c (.int k a)) (.c (.int k b)) K = K (.c (.bool (a != b))) := by simp [binV, binI]
@[simp] theorem bin_lss : binV .lss (.c (.int k a)) (.c (.int k b)) K = K (.c (.bool (a < b))) := by simp [binV, binI]
@[simp] theorem bin_leq : binV .leq (.c (.int k a)) (.c (.int k b)) K = K (.c (.bool (a ≤ b))) := by simp [binV, binI]
@[simp] theorem bin_gtr : binV .gtr (.c (.int k a)) (.c (.int k b)) K = K (.c (.bool (a > b))) := by simp [binV, binI]
@[simp] theorem bin_geq : binV .geq (.c (.int k a)) (.c (.int k b)) K = K (.c (.bool (a ≥ b))) := by simp [binV, binI]
end
section
variable {a b : ByteArray}
@[simp] theorem bins_add : binV .add (.c (.string a)) (.c (.string b)) K = (a.size + b.size ≤ 9223372036854775807 ∧ K (.c (.string (a ++ b)))) := _root_.id rfl
@[simp] theorem bins_eql : binV .eql (.c (.string a)) (.c (.string b)) K = K (.c (.bool (eqS a b))) := _root_.id rfl
@[simp] theorem bins_neq : binV .neq (.c (.string a)) (.c (.string b)) K = K (.c (.bool (!eqS a b))) := _root_.id rfl
@[simp] theorem bins_lss : binV .lss (.c (.string a)) (.c (.string b)) K = K (.c (.bool (ltS a b))) := _root_.id rfl
end
@[simp] theorem binb_eq {a b : Bool} : binbV false (.c (.bool a)) (.c (.bool b)) K = K (.c (.bool (a == b))) := _root_.id rfl
@[simp] theorem binb_ne {a b : Bool} : binbV true (.c (.bool a)) (.c (.bool b)) K = K (.c (.bool (!(a == b)))) := _root_.id rfl
@[simp] theorem un_not {b : Bool} : unV .not (.c (.bool b)) K = K (.c (.bool !b)) := _root_.id rfl
@[simp] theorem un_neg {k : IntKind} {m : Int} : unV .neg (.c (.int k m)) K = K (.c (.int k (k.wrap (0 - m)))) := _root_.id rfl
@[simp] theorem intO_none {d : Int} {K : Int → Prop} : intO none d K = K d := _root_.id rfl
theorem slSV_string {s : ByteArray} {lo hi} : slSV (.c (.string s)) lo hi K = intO hi s.size fun h => intO lo 0 fun l => 0 ≤ l ∧ l ≤ h ∧ h ≤ s.size ∧ K (.c (.string (s.extract l.toNat h.toNat))) := _root_.id rfl
@[simp] theorem slSV_string_h {s : ByteArray} {lo hi} : slSV (.c (.string s)) lo hi K = intO hi s.size (hold fun h => intO lo 0 (hold fun l => 0 ≤ l ∧ l ≤ h ∧ h ≤ s.size ∧ K (.c (.string (s.extract l.toNat h.toNat))))) := slSV_string
theorem slLV_arr {sz id o m lo hi} : slLV hp sz (.arr id o m) lo hi K = objK hp id fun ob => rowK ob fun _ sz' _ _ => sz' = sz ∧ intO hi m fun h => intO lo 0 fun l => 0 ≤ l ∧ l ≤ h ∧ h ≤ m ∧ K (.arr id (o + l.toNat) (h.toNat - l.toNat)) := by
  rw [rowK_eq]; simp only [slLV]
  apply propext
  constructor
  · rintro ⟨⟨ty, own, xs, h1⟩, h2⟩; exact ⟨ty, sz, own, xs, h1, rfl, h2⟩
  · rintro ⟨ty, sz', own, xs, h1, rfl, h2⟩; exact ⟨⟨ty, own, xs, h1⟩, h2⟩
@[simp] theorem slLV_arr_h {sz id o m lo hi} : slLV hp sz (.arr id o m) lo hi K = objK hp id (hold fun ob => rowK ob (hold fun _ sz' _ _ => sz' = sz ∧ intO hi m (hold fun h => intO lo 0 (hold fun l => 0 ≤ l ∧ l ≤ h ∧ h ≤ m ∧ K (.arr id (o + l.toNat) (h.toNat - l.toNat)))))) := slLV_arr
@[simp] theorem taV_same {t : Nat} {z : Value} {u : V} : taV t z (.ifc t u) K = K (.tup [u, .c (.bool true)]) := by simp [taV]
@[simp] theorem isniV_ifc {t : Nat} {u : V} {Kb : Bool → Prop} : isniV (.ifc t u) Kb = Kb false := _root_.id rfl
@[simp] theorem isniV_nil {Kb : Bool → Prop} : isniV (.c .nilIface) Kb = Kb true := _root_.id rfl
@[simp] theorem ixAV_c {m : Nat} {cs : List V} {k i} : ixAV m cs (.c (.int k i)) K = (0 ≤ i ∧ i < (m : Int) ∧ nthK cs i.toNat K) := by simp [ixAV, nthK_eq]
@[simp] theorem ixSV_string {s : ByteArray} {k i} : ixSV (.c (.string s)) (.c (.int k i)) K = (0 ≤ i ∧ ∃ b, s.data.toList[i.toNat]? = some b ∧ K (.c (.int .u8 b.toNat))) := _root_.id rfl
@[simp] theorem fillV_nil {z} : fillV (Env.ev env) [] z Ks = Ks z := _root_.id rfl
theorem fillV_cons {off sz x ps z} : fillV (Env.ev env) ((off, sz, x) :: ps) z Ks = evK env x fun v => cellsK v fun us => us.length = sz ∧ off + sz ≤ z.length ∧ fillV (Env.ev env) ps (setAt z off us) Ks := by
  simp only [fillV, evK_eq, cellsK]; apply propext
  exact ⟨fun ⟨v, us, h1, h2, h3⟩ => ⟨v, h1, us, h2, h3⟩, fun ⟨v, h1, us, h2, h3⟩ => ⟨v, us, h1, h2, h3⟩⟩
@[simp] theorem fillV_cons_h {off sz x ps z} : fillV (Env.ev env) ((off, sz, x) :: ps) z Ks = evK env x (hold fun v => cellsK v (hold fun us => us.length = sz ∧ off + sz ≤ z.length ∧ fillV (Env.ev env) ps (setAt z off us) Ks)) := fillV_cons
@[simp] theorem ofConst_int {k m} : ofConst (.int k m) = .c (.int k m) := _root_.id rfl
@[simp] theorem ofConst_bool {b} : ofConst (.bool b) = .c (.bool b) := _root_.id rfl
@[simp] theorem ofConst_string {b} : ofConst (.string b) = .c (.string b) := _root_.id rfl
@[simp] theorem ofConst_nil : ofConst (.slice none 0 0) = .nil := _root_.id rfl
@[simp] theorem ofConst_agg {vs} : ofConst (.agg vs) = .agg (vs.toList.map ofCell) := _root_.id rfl
@[simp] theorem ofCell_int {k m} : ofCell (.int k m) = .c (.int k m) := _root_.id rfl
@[simp] theorem ofCell_string {b} : ofCell (.string b) = .c (.string b) := _root_.id rfl
@[simp] theorem ofCell_nil : ofCell (.slice none 0 0) = .nil := _root_.id rfl
end
@[simp] theorem put_some' {e : Env} {s v} : Env.put e (some s) v = (s, v) :: e := _root_.id rfl
@[simp] theorem put_none' {e : Env} {v} : Env.put e none v = e := _root_.id rfl
@[simp] theorem killE_nil {i} : Env.kill i [] = [] := _root_.id rfl
@[simp] theorem killE_cons {i s v} {e : Env} : Env.kill i ((s, v) :: e) = (s, v.kill i) :: Env.kill i e := _root_.id rfl
@[simp] theorem killH_nil {i} : Hp.kill i [] = [] := _root_.id rfl
@[simp] theorem killH_cons {i j o} {h : Hp} : Hp.kill i ((j, o) :: h) = (j, if j = i then .gone else if o.has i then .gone else o) :: Hp.kill i h := _root_.id rfl
@[simp] theorem base_bp {i o} : V.base (.bp i o) = [i] := _root_.id rfl
@[simp] theorem base_arc {i o n q} : V.base (.arc i o n q) = [i] := _root_.id rfl
@[simp] theorem base_ep {i k o} : V.base (.ep i k o) = [i] := _root_.id rfl
@[simp] theorem base_arr {i o m} : V.base (.arr i o m) = [i] := _root_.id rfl
@[simp] theorem base_lst {xs} : V.base (.lst xs) = [] := _root_.id rfl
@[simp] theorem base_rp {xs} : V.base (.rp xs) = [] := _root_.id rfl
@[simp] theorem rdE_nil {h : Hp} : rdE [] h = none := _root_.id rfl
@[simp] theorem rdE_cons {i is} {h : Hp} : rdE (i :: is) h = some ⟨i :: is, [], false, h⟩ := _root_.id rfl
@[simp] theorem at_e {d k} : Id.at d (.e k) = false := _root_.id rfl
@[simp] theorem at_l' {d s q} : Id.at d (.l s q) = (d == some s) := _root_.id rfl
@[simp] theorem inS_e {ss k} : Id.inS ss (.e k) = false := _root_.id rfl
@[simp] theorem inS_l {ss s q} : Id.inS ss (.l s q) = ss.contains s := _root_.id rfl
@[simp] theorem killSE_nil {ss} : Env.killS ss [] = [] := _root_.id rfl
@[simp] theorem killSE_cons {ss s v} {e : Env} : Env.killS ss ((s, v) :: e) = (s, if v.hasS ss then .any else v) :: Env.killS ss e := _root_.id rfl
@[simp] theorem killSH_nil {ss} : Hp.killS ss [] = [] := _root_.id rfl
@[simp] theorem killSH_cons {ss i o} {h : Hp} : Hp.killS ss ((i, o) :: h) = if i.inS ss then Hp.killS ss h else (i, if o.hasS ss then .gone else o) :: Hp.killS ss h := by
  simp only [Hp.killS, List.filter_cons]
  cases i.inS ss <;> simp
@[simp] theorem outS_nil {ss} : Hp.outS ss [] = [] := _root_.id rfl
@[simp] theorem outS_cons {ss i o} {h : Hp} : Hp.outS ss ((i, o) :: h) = if i.inS ss then Hp.outS ss h else (i, o) :: Hp.outS ss h := by
  simp only [Hp.outS, List.filter_cons]
  cases i.inS ss <;> simp
@[simp] theorem onl_nil {T} : Hp.onl T [] = [] := _root_.id rfl
@[simp] theorem onl_cons {T i o} {h : Hp} : Hp.onl T ((i, o) :: h) = if T.contains i then (i, o) :: Hp.onl T h else Hp.onl T h := by
  simp only [Hp.onl, List.filter_cons]
@[simp] theorem offB_nil {T d} : offB T d [] = true := _root_.id rfl
@[simp] theorem offB_cons {T d i o} {h : Hp} : offB T d ((i, o) :: h) = ((T.contains i || i.at d) && offB T d h) := _root_.id rfl
@[simp] theorem newS_nil : newS [] = [] := _root_.id rfl
@[simp] theorem newS_cons {i is} : newS (i :: is) = if i.1.op.mk then (match i.1.d with | some s => s :: newS is | none => newS is) else newS is := by
  obtain ⟨⟨d, g, op⟩, deps⟩ := i
  unfold newS
  rw [List.filterMap_cons]
  cases op.mk <;> cases d <;> simp
attribute [simp] IOp.mk
section
variable {ss : List Nat}
@[simp] theorem hasS_bp {j o} : V.hasS ss (.bp j o) = j.inS ss := _root_.id (by simp only [V.hasS])
@[simp] theorem hasS_ep {j k o} : V.hasS ss (.ep j k o) = j.inS ss := _root_.id (by simp only [V.hasS])
@[simp] theorem hasS_arc {j o n q} : V.hasS ss (.arc j o n q) = j.inS ss := _root_.id (by simp only [V.hasS])
@[simp] theorem hasS_arr {j o m} : V.hasS ss (.arr j o m) = j.inS ss := _root_.id (by simp only [V.hasS])
@[simp] theorem hasS_agg {cs} : V.hasS ss (.agg cs) = V.hasSL ss cs := _root_.id (by simp only [V.hasS])
@[simp] theorem hasS_tup {cs} : V.hasS ss (.tup cs) = V.hasSL ss cs := _root_.id (by simp only [V.hasS])
@[simp] theorem hasS_ifc {t v} : V.hasS ss (.ifc t v) = V.hasS ss v := _root_.id (by simp only [V.hasS])
@[simp] theorem hasS_any : V.hasS ss .any = false := _root_.id (by simp only [V.hasS])
@[simp] theorem hasS_c {v} : V.hasS ss (.c v) = false := _root_.id (by simp only [V.hasS])
@[simp] theorem hasS_nil : V.hasS ss .nil = false := _root_.id (by simp only [V.hasS])
@[simp] theorem hasS_lst {xs} : V.hasS ss (.lst xs) = false := _root_.id (by simp only [V.hasS])
@[simp] theorem hasS_rp {xs} : V.hasS ss (.rp xs) = false := _root_.id (by simp only [V.hasS])
@[simp] theorem hasSL_nil : V.hasSL ss [] = false := _root_.id (by simp only [V.hasSL])
@[simp] theorem hasSL_cons {v vs} : V.hasSL ss (v :: vs) = (V.hasS ss v || V.hasSL ss vs) := _root_.id (by simp only [V.hasSL])
@[simp] theorem ob_hasS_box {cs} : Ob.hasS ss (.box cs) = V.hasSL ss cs := _root_.id rfl
@[simp] theorem ob_hasS_row {ty sz own xs} : Ob.hasS ss (.row ty sz own xs) = false := _root_.id rfl
end
@[simp] theorem killsE_nil {i} : Env.kills i [] = [] := _root_.id rfl
@[simp] theorem killsE_cons {i s v} {e : Env} : Env.kills i ((s, v) :: e) = (s, if i.any fun i => v.has i then .any else v) :: Env.kills i e := _root_.id rfl
@[simp] theorem killsH_nil {i} : Hp.kills i [] = [] := _root_.id rfl
@[simp] theorem killsH_cons {i j o} {h : Hp} : Hp.kills i ((j, o) :: h) = if i.contains j then Hp.kills i h else (j, if i.any fun i => o.has i then .gone else o) :: Hp.kills i h := by
  simp only [Hp.kills, List.filter_cons]
  cases i.contains j <;> simp
@[simp] theorem frz_nil {v} : Hp.frz v [] = [] := _root_.id rfl
@[simp] theorem frz_cons {v j o} {h : Hp} : Hp.frz v ((j, o) :: h) = (j, if v.has j then o.frz else o) :: Hp.frz v h := _root_.id rfl
@[simp] theorem set_nil' {i o} : Hp.set i o [] = [] := _root_.id rfl
@[simp] theorem set_cons' {i o j q} {h : Hp} : Hp.set i o ((j, q) :: h) = (j, if j = i then o else q) :: Hp.set i o h := by
  simp [Hp.set]
@[simp] theorem Ob.frz_row {ty sz own xs} : Ob.frz (.row ty sz own xs) = .row ty sz false xs := _root_.id rfl
@[simp] theorem Ob.frz_box {cs} : Ob.frz (.box cs) = .box cs := _root_.id rfl
@[simp] theorem Ob.frz_gone : Ob.frz .gone = .gone := _root_.id rfl
@[simp] theorem Ob.has_gone {i} : Ob.has i .gone = false := _root_.id rfl
@[simp] theorem Ob.has_box {i cs} : Ob.has i (.box cs) = V.hasL i cs := _root_.id rfl
@[simp] theorem Ob.has_row {i ty sz own xs} : Ob.has i (.row ty sz own xs) = false := _root_.id rfl
section
variable {i : Id}
@[simp] theorem has_bp {j o} : V.has i (.bp j o) = decide (j = i) := _root_.id (by simp only [V.has])
@[simp] theorem has_ep {j k o} : V.has i (.ep j k o) = decide (j = i) := _root_.id (by simp only [V.has])
@[simp] theorem has_arc {j o n q} : V.has i (.arc j o n q) = decide (j = i) := _root_.id (by simp only [V.has])
@[simp] theorem has_arr {j o m} : V.has i (.arr j o m) = decide (j = i) := _root_.id (by simp only [V.has])
@[simp] theorem has_agg {cs} : V.has i (.agg cs) = V.hasL i cs := _root_.id (by simp only [V.has])
@[simp] theorem has_fn {f cs} : V.has i (.fn f cs) = V.hasL i cs := _root_.id (by simp only [V.has])
@[simp] theorem has_tup {cs} : V.has i (.tup cs) = V.hasL i cs := _root_.id (by simp only [V.has])
@[simp] theorem has_ifc {t v} : V.has i (.ifc t v) = V.has i v := _root_.id (by simp only [V.has])
@[simp] theorem has_any : V.has i .any = false := _root_.id (by simp only [V.has])
@[simp] theorem has_c {v} : V.has i (.c v) = false := _root_.id (by simp only [V.has])
@[simp] theorem has_nil : V.has i .nil = false := _root_.id (by simp only [V.has])
@[simp] theorem has_lst {xs} : V.has i (.lst xs) = false := _root_.id (by simp only [V.has])
@[simp] theorem has_rp {xs} : V.has i (.rp xs) = false := _root_.id (by simp only [V.has])
@[simp] theorem hasL_nil : V.hasL i [] = false := _root_.id (by simp only [V.hasL])
@[simp] theorem hasL_cons {v vs} : V.hasL i (v :: vs) = (V.has i v || V.hasL i vs) := _root_.id (by simp only [V.hasL])
@[simp] theorem pure_agg {cs} : V.pure (.agg cs) = V.pureL cs := _root_.id (by simp only [V.pure])
@[simp] theorem pure_fn {f cs} : V.pure (.fn f cs) = V.pureL cs := _root_.id (by simp only [V.pure])
@[simp] theorem pure_tup {cs} : V.pure (.tup cs) = V.pureL cs := _root_.id (by simp only [V.pure])
@[simp] theorem pure_ifc {t v} : V.pure (.ifc t v) = V.pure v := _root_.id (by simp only [V.pure])
@[simp] theorem pure_c {v} : V.pure (.c v) = true := _root_.id (by simp only [V.pure])
@[simp] theorem pure_lst {xs} : V.pure (.lst xs) = true := _root_.id (by simp only [V.pure])
@[simp] theorem pure_rp {xs} : V.pure (.rp xs) = true := _root_.id (by simp only [V.pure])
@[simp] theorem pureL_nil : V.pureL [] = true := _root_.id (by simp only [V.pureL])
@[simp] theorem pureL_cons {v vs} : V.pureL (v :: vs) = (V.pure v && V.pureL vs) := _root_.id (by simp only [V.pureL])
end
@[simp] theorem kill_c {i v} : V.kill i (.c v) = .c v := _root_.id (by simp only [V.kill, V.has]; rfl)
@[simp] theorem kill_nil {i} : V.kill i .nil = .nil := _root_.id (by simp only [V.kill, V.has]; rfl)
@[simp] theorem kill_lst {i xs} : V.kill i (.lst xs) = .lst xs := _root_.id (by simp only [V.kill, V.has]; rfl)
@[simp] theorem kill_rp {i xs} : V.kill i (.rp xs) = .rp xs := _root_.id (by simp only [V.kill, V.has]; rfl)
@[simp] theorem kill_bp {i j o} : V.kill i (.bp j o) = if j = i then .any else .bp j o := by simp [V.kill, V.has]
@[simp] theorem kill_ep {i j k o} : V.kill i (.ep j k o) = if j = i then .any else .ep j k o := by simp [V.kill, V.has]
@[simp] theorem kill_arc {i j o n q} : V.kill i (.arc j o n q) = if j = i then .any else .arc j o n q := by simp [V.kill, V.has]
@[simp] theorem kill_arr {i j o m} : V.kill i (.arr j o m) = if j = i then .any else .arr j o m := by simp [V.kill, V.has]
@[simp] theorem kill_agg {i cs} : V.kill i (.agg cs) = if V.hasL i cs then .any else .agg cs := _root_.id (by simp only [V.kill, V.has]; rfl)
@[simp] theorem kill_fn {i f cs} : V.kill i (.fn f cs) = if V.hasL i cs then .any else .fn f cs := _root_.id (by simp only [V.kill, V.has]; rfl)
@[simp] theorem kill_tup {i cs} : V.kill i (.tup cs) = if V.hasL i cs then .any else .tup cs := _root_.id (by simp only [V.kill, V.has]; rfl)
@[simp] theorem kill_ifc {i t v} : V.kill i (.ifc t v) = if v.has i then .any else .ifc t v := _root_.id (by simp only [V.kill, V.has]; rfl)
attribute [simp] V.scalar scalars Value.oneCell' retOf envOfArgs hpE setAt
section
variable {K : V → Prop} {Ks : List V → Prop} {nl : Bool} {ks : List Id}
@[simp] theorem view_c {v} : V.view hp (.c v) K = K (.c v) := _root_.id rfl
@[simp] theorem view_nil : V.view hp .nil K = K (.lst []) := _root_.id rfl
@[simp] theorem view_lst {xs} : V.view hp (.lst xs) K = K (.lst xs) := _root_.id rfl
@[simp] theorem view_rp {xs} : V.view hp (.rp xs) K = K (.rp xs) := _root_.id rfl
@[simp] theorem view_fn {f cs} : V.view hp (.fn f cs) K = K (.fn f cs) := _root_.id rfl
theorem view_arr0 {i o m} : V.view hp (.arr i o m) K = objK hp i fun ob => rowK ob fun _ _ own xs => own = false ∧ o + m ≤ xs.length ∧ K (.lst ((xs.drop o).take m)) := by
  rw [rowK_eq]; simp only [V.view]; apply propext
  constructor
  · rintro ⟨ty, sz, xs, h1, h2⟩; exact ⟨ty, sz, false, xs, h1, rfl, h2⟩
  · rintro ⟨ty, sz, own, xs, h1, rfl, h2⟩; exact ⟨ty, sz, xs, h1, h2⟩
@[simp] theorem view_arr {i o m} : V.view hp (.arr i o m) K = objK hp i (hold fun ob => rowK ob (hold fun _ _ own xs => own = false ∧ o + m ≤ xs.length ∧ K (.lst ((xs.drop o).take m)))) := view_arr0
@[simp] theorem view_agg {cs} : V.view hp (.agg cs) K = V.viewL hp cs (hold fun us => K (.agg us)) := by simp only [V.view, hold]
@[simp] theorem view_tup {cs} : V.view hp (.tup cs) K = V.viewL hp cs (hold fun us => K (.tup us)) := by simp only [V.view, hold]
@[simp] theorem view_ifc {t v} : V.view hp (.ifc t v) K = V.view hp v (hold fun u => K (.ifc t u)) := by simp only [V.view, hold]
@[simp] theorem viewL_nil : V.viewL hp [] Ks = Ks [] := _root_.id rfl
@[simp] theorem viewL_cons {v vs} : V.viewL hp (v :: vs) Ks = V.view hp v (hold fun u => V.viewL hp vs (hold fun us => Ks (u :: us))) := by simp only [V.viewL, hold]
@[simp] theorem see_c {v} : V.see nl ks hp (.c v) K = K (.c v) := _root_.id rfl
@[simp] theorem see_nil : V.see nl ks hp .nil K = if nl then K .nil else K (.lst []) := _root_.id rfl
@[simp] theorem see_lst {xs} : V.see nl ks hp (.lst xs) K = K (.lst xs) := _root_.id rfl
@[simp] theorem see_rp {xs} : V.see nl ks hp (.rp xs) K = K (.rp xs) := _root_.id rfl
@[simp] theorem see_bp {i o} : V.see nl ks hp (.bp i o) K = K (.bp i o) := _root_.id rfl
@[simp] theorem see_arc {i o n q} : V.see nl ks hp (.arc i o n q) K = V.see nl ks hp (.arr i o n) K := _root_.id rfl
theorem see_arr0 {i o m} : V.see nl ks hp (.arr i o m) K = if ks.contains i then K (.arr i o m) else objK hp i fun ob => rowK ob fun _ _ own xs => own = false ∧ o + m ≤ xs.length ∧ K (.lst ((xs.drop o).take m)) := by
  simp only [V.see]
  split
  · rfl
  · exact view_arr0
@[simp] theorem see_arr {i o m} : V.see nl ks hp (.arr i o m) K = if ks.contains i then K (.arr i o m) else objK hp i (hold fun ob => rowK ob (hold fun _ _ own xs => own = false ∧ o + m ≤ xs.length ∧ K (.lst ((xs.drop o).take m)))) := see_arr0
@[simp] theorem see_agg {cs} : V.see nl ks hp (.agg cs) K = V.seeL nl ks hp cs (hold fun us => K (.agg us)) := by simp only [V.see, hold]
@[simp] theorem see_tup {cs} : V.see nl ks hp (.tup cs) K = V.seeL nl ks hp cs (hold fun us => K (.tup us)) := by simp only [V.see, hold]
@[simp] theorem see_fn {f cs} : V.see nl ks hp (.fn f cs) K = V.seeL nl ks hp cs (hold fun us => K (.fn f us)) := by simp only [V.see, hold]
@[simp] theorem see_ifc {t v} : V.see nl ks hp (.ifc t v) K = V.see nl ks hp v (hold fun u => K (.ifc t u)) := by simp only [V.see, hold]
@[simp] theorem seeL_nil : V.seeL nl ks hp [] Ks = Ks [] := _root_.id rfl
@[simp] theorem seeL_cons {v vs} : V.seeL nl ks hp (v :: vs) Ks = V.see nl ks hp v (hold fun u => V.seeL nl ks hp vs (hold fun us => Ks (u :: us))) := by simp only [V.seeL, hold]
end
theorem callS_ret {env : Env} {hp : Hp} {d : Option Nat} {f : Operand} {xs : List Operand} {K : Env → Hp → Prop} {Kp : V → Hp → Prop} {g : Nat} {caps vs args : List V} {v : V} (h : Ret P g args v) (hf : Env.ev env f = some (.fn g caps)) (hx : xs.mapM (Env.ev env) = some vs)
    (hv : V.viewL (Hp.frz (.tup (vs ++ caps)) hp) (vs ++ caps) (· = args)) (hp1 : V.pureL args = true) (hp2 : v.pure = true) (hK : K (env.put d v) (Hp.frz (.tup (vs ++ caps)) hp)) : callS P env hp d f xs K Kp := by
  refine .inl ⟨g, caps, vs, hf, hx, ?_⟩
  obtain ⟨us, rfl, k⟩ := viewL_pick hv
  exact k _ ⟨hp1, h.use ⟨hp2, hK⟩⟩
theorem callN_ret {env : Env} {hp : Hp} {d : Option Nat} {f : Operand} {xs : List Operand} {K Kp : V → Option Eff → Prop} {g : Nat} {caps vs args : List V} {v : V} (h : Ret P g args v) (hf : Env.ev env f = some (.fn g caps)) (hx : xs.mapM (Env.ev env) = some vs)
    (hv : V.viewL [] (vs ++ caps) (· = args)) (hp1 : V.pureL args = true) (hp2 : v.pure = true) (hK : K v none) : callN P env hp d f xs K Kp := by
  refine .inl ⟨g, caps, vs, hf, hx, ?_⟩
  obtain ⟨us, rfl, k⟩ := viewL_pick hv
  exact k _ ⟨hp1, .ret v [], h, hp2, hK⟩
end Go.Am
end

section
namespace Go.Am
variable {P : Program} {n : Nat} {env : Env} {hp : Hp}
theorem elemK_of {xs : List (List V)} {k : Nat} {e : List V} {K : List V → Prop} (h : xs[k]? = some e) (hK : K e) : elemK xs k K := ⟨e, h, hK⟩
theorem elemK_map {α : Type} {f : α → List V} {l : List α} {k : Nat} {K : List V → Prop} (h : k < l.length) (hK : K (f (l[k]'h))) : elemK (l.map f) k K := ⟨f l[k], by simp [h], hK⟩
@[simp] theorem map_set_self {α β : Type} {f : α → β} {l : List α} {k : Nat} (h : k < l.length) : (l.map f).set k (f l[k]) = l.map f := by
  apply List.ext_getElem
  · simp
  · intro j h1 h2
    rw [List.getElem_set]
    split
    · rename_i e; subst e; simp
    · rfl
theorem wrap64 {x : Int} (h1 : -9223372036854775808 ≤ x) (h2 : x < 9223372036854775808) : IntKind.i64.wrap x = x := by
  simp only [IntKind.wrap, IntKind.bits, IntKind.signed]; simp; omega
def ForI (m : Nat) (E : Nat → Env) (H : Nat → Hp) : Nat → Env → Hp → Prop := fun k e h => ∃ i, i ≤ m ∧ k = m - i ∧ e = E i ∧ h = H i
def ForN (m : Nat) (E : Nat → Env) (H : Nat → Hp) (i : Nat) (e' : Env) (h' : Hp) : Prop := ∃ m' E' h'', m' < m - i ∧ ForI m E H m' E' h'' ∧ Wk E' h'' e' h'
theorem ForN.of {m i : Nat} {E : Nat → Env} {H : Nat → Hp} {e' : Env} {h' : Hp} (hi : i < m) (h : Wk (E (i + 1)) (H (i + 1)) e' h') : ForN m E H i e' h' := ⟨m - (i + 1), _, _, by omega, ⟨i + 1, hi, rfl, rfl, rfl⟩, h⟩
theorem loopS_for {b : Cd} {env : Env} {hp : Hp} {Q : Qs} (m : Nat) (E : Nat → Env) (H : Nat → Hp) (h0 : Wk (E 0) (H 0) env hp)
    (hs : ∀ i, i ≤ m → vc P b (E i) (H i) (hold (thenQ (fun e' h' => ForN m E H i e' h') Q))) : loopS P b env hp Q := by
  refine ⟨ForI m E H, ⟨m, _, _, ⟨0, Nat.zero_le _, rfl, rfl, rfl⟩, h0⟩, ?_⟩
  rintro k e h ⟨i, hi, rfl, rfl, rfl⟩
  exact hs i hi
def WhI {α : Type} (mu : α → Nat) (E : α → Env) (H : α → Hp) (ok : α → Prop) : Nat → Env → Hp → Prop := fun k e h => ∃ x, ok x ∧ k = mu x ∧ e = E x ∧ h = H x
def WhN {α : Type} (mu : α → Nat) (E : α → Env) (H : α → Hp) (ok : α → Prop) (x : α) (e' : Env) (h' : Hp) : Prop := ∃ m' E' h'', m' < mu x ∧ WhI mu E H ok m' E' h'' ∧ Wk E' h'' e' h'
theorem WhN.of {α : Type} {mu : α → Nat} {E : α → Env} {H : α → Hp} {ok : α → Prop} {x : α} {e' : Env} {h' : Hp} (y : α) (hy : ok y) (hlt : mu y < mu x) (h : Wk (E y) (H y) e' h') : WhN mu E H ok x e' h' := ⟨mu y, _, _, hlt, ⟨y, hy, rfl, rfl, rfl⟩, h⟩
theorem loopS_while {α : Type} {b : Cd} {env : Env} {hp : Hp} {Q : Qs} (mu : α → Nat) (E : α → Env) (H : α → Hp) (ok : α → Prop) (x0 : α) (hx0 : ok x0) (h0 : Wk (E x0) (H x0) env hp)
    (hs : ∀ x, ok x → vc P b (E x) (H x) (hold (thenQ (fun e' h' => WhN mu E H ok x e' h') Q))) : loopS P b env hp Q := by
  refine ⟨WhI mu E H ok, ⟨_, _, _, ⟨x0, hx0, rfl, rfl, rfl⟩, h0⟩, ?_⟩
  rintro k e h ⟨x, hx, rfl, rfl, rfl⟩
  exact hs x hx
theorem Wk.subs {E : Env} {h : Hp} (hE : ∀ p ∈ E, lookK env p.1 (· = p.2)) (hh : ∀ p ∈ h, objK hp p.1 (· = p.2)) : Wk E h env hp :=
  .sub (fun p hp => by have := hE p hp; rw [lookK_eq] at this; obtain ⟨v, h1, rfl⟩ := this; exact h1) (fun p hp' => by have := hh p hp'; rw [objK_eq] at this; obtain ⟨v, h1, rfl⟩ := this; exact h1)
def mapK (f : Id → Option Id) (v : V) (K : V → Prop) : Prop := ∃ u, v.mapId f = some u ∧ K u
def mapLK (f : Id → Option Id) (v : List V) (K : List V → Prop) : Prop := ∃ u, V.mapIdL f v = some u ∧ K u
def getO (hp : Hp) (i : Id) : Ob := (hp.lookup i).getD .gone
def Ob.cellsOf : Ob → List V
  | .box cs => cs
  | _ => []
def handO (ids : List Id) (hp : Hp) : Ob → (Ob → Prop) → Prop
  | .box cs, K => V.seeL true ids hp cs fun us => mapLK (toE ids 0) us fun us' => K (.box us')
  | .row ty sz own xs, K => K (.row ty sz own xs)
  | .gone, K => K .gone
  | .mpo kd kvs, K => K .gone
@[simp] theorem handV_nil {ids} {K : List Ob → Prop} : handV ids hp [] K = K [] := _root_.id rfl
theorem handV_cons {ids i is} {K : List Ob → Prop} : handV ids hp (i :: is) K = handO ids hp (getO hp i) fun o => handV ids hp is fun obs => K (o :: obs) := by
  simp only [handV, getO]
  cases hp.lookup i with
  | none => rfl
  | some o => cases o <;> rfl
@[simp] theorem handV_cons_h {ids i is} {K : List Ob → Prop} : handV ids hp (i :: is) K = handO ids hp (getO hp i) (hold fun o => handV ids hp is (hold fun obs => K (o :: obs))) := handV_cons
@[simp] theorem handO_box {ids cs} {K : Ob → Prop} : handO ids hp (.box cs) K = V.seeL true ids hp cs (hold fun us => mapLK (toE ids 0) us (hold fun us' => K (.box us'))) := _root_.id rfl
@[simp] theorem handO_row {ids ty sz own xs} {K : Ob → Prop} : handO ids hp (.row ty sz own xs) K = K (.row ty sz own xs) := _root_.id rfl
@[simp] theorem handO_gone {ids} {K : Ob → Prop} : handO ids hp .gone K = K .gone := _root_.id rfl
@[simp] theorem getO_nil {i} : getO [] i = .gone := _root_.id rfl
@[simp] theorem getO_cons {i j o} {h : Hp} : getO ((j, o) :: h) i = if i = j then o else getO h i := by
  simp only [getO, List.lookup_cons]
  by_cases e : i = j
  · subst e; simp
  · have : (i == j) = false := by simpa using e
    rw [this, if_neg e]
@[simp] theorem boxes_nil : boxes hp [] = [] := _root_.id rfl
@[simp] theorem boxes_cons {i is} : boxes hp (i :: is) = (getO hp i).cellsOf ++ boxes hp is := by
  simp only [boxes, List.flatMap_cons, getO]
  cases hp.lookup i with
  | none => rfl
  | some o => cases o <;> rfl
@[simp] theorem cellsOf_box {cs} : Ob.cellsOf (.box cs) = cs := _root_.id rfl
@[simp] theorem cellsOf_row {ty sz own xs} : Ob.cellsOf (.row ty sz own xs) = [] := _root_.id rfl
@[simp] theorem cellsOf_gone : Ob.cellsOf .gone = [] := _root_.id rfl
theorem outV_eq {ids v} {K : V → List Ob → Prop} : outV hp ids v K = V.see false ids (Hp.frz (.tup (V.hideL ids (v :: boxes hp ids))) hp) v (hold fun u => mapK (toE ids 0) u (hold fun u' => handV ids (Hp.frz (.tup (V.hideL ids (v :: boxes hp ids))) hp) ids (hold fun obs => K u' obs))) := _root_.id rfl
attribute [simp] outV_eq
section
variable {f : Id → Option Id} {K : V → Prop} {Ks : List V → Prop}
theorem mapK_bind {α : Type} {o : Option α} {g : α → V} : (∃ u, o.map g = some u ∧ K u) = ∃ y, o = some y ∧ K (g y) := by
  cases o <;> simp
def idK (o : Option Id) (K : Id → Prop) : Prop := ∃ i, o = some i ∧ K i
@[simp] theorem idK_some {i} {K : Id → Prop} : idK (some i) K = K i := by simp [idK]
@[simp] theorem idK_none {K : Id → Prop} : idK none K = False := by simp [idK]
@[simp] theorem mapK_c {v} : mapK f (.c v) K = K (.c v) := by simp [mapK, V.mapId]
@[simp] theorem mapK_nil : mapK f .nil K = K .nil := by simp [mapK, V.mapId]
@[simp] theorem mapK_lst {xs} : mapK f (.lst xs) K = K (.lst xs) := by simp [mapK, V.mapId]
@[simp] theorem mapK_rp {xs} : mapK f (.rp xs) K = K (.rp xs) := by simp [mapK, V.mapId]
@[simp] theorem mapK_bp {i o} : mapK f (.bp i o) K = idK (f i) (hold fun j => K (.bp j o)) := by simp only [mapK, V.mapId, mapK_bind, idK, hold]
@[simp] theorem mapK_ep {i k o} : mapK f (.ep i k o) K = idK (f i) (hold fun j => K (.ep j k o)) := by simp only [mapK, V.mapId, mapK_bind, idK, hold]
@[simp] theorem mapK_arc {i o n q} : mapK f (.arc i o n q) K = idK (f i) (hold fun j => K (.arc j o n q)) := by simp only [mapK, V.mapId, mapK_bind, idK, hold]
@[simp] theorem mapK_arr {i o m} : mapK f (.arr i o m) K = idK (f i) (hold fun j => K (.arr j o m)) := by simp only [mapK, V.mapId, mapK_bind, idK, hold]
@[simp] theorem mapK_agg {cs} : mapK f (.agg cs) K = mapLK f cs (hold fun us => K (.agg us)) := by simp only [mapK, V.mapId, mapK_bind, mapLK, hold]
@[simp] theorem mapK_fn {g cs} : mapK f (.fn g cs) K = mapLK f cs (hold fun us => K (.fn g us)) := by simp only [mapK, V.mapId, mapK_bind, mapLK, hold]
@[simp] theorem mapK_tup {cs} : mapK f (.tup cs) K = mapLK f cs (hold fun us => K (.tup us)) := by simp only [mapK, V.mapId, mapK_bind, mapLK, hold]
@[simp] theorem mapK_ifc {t v} : mapK f (.ifc t v) K = mapK f v (hold fun u => K (.ifc t u)) := by simp only [mapK, V.mapId, mapK_bind, hold]
@[simp] theorem mapLK_nil : mapLK f [] Ks = Ks [] := by simp [mapLK, V.mapIdL]
@[simp] theorem mapLK_cons {v vs} : mapLK f (v :: vs) Ks = mapK f v (hold fun u => mapLK f vs (hold fun us => Ks (u :: us))) := by
  simp only [mapLK, mapK, V.mapIdL, hold]; apply propext
  constructor
  · rintro ⟨us, h1, h2⟩
    simp only [Option.bind_eq_some_iff, Option.map_eq_some_iff] at h1
    obtain ⟨u, h1, us', h3, rfl⟩ := h1
    exact ⟨u, h1, us', h3, h2⟩
  · rintro ⟨u, h1, us, h2, h3⟩; exact ⟨u :: us, by simp [h1, h2], h3⟩
end
attribute [simp] toE esL V.hide V.hideL
theorem endR {k : Nat} {rs : List IOp} {Q : Res → Prop} (E : Env) (h : Hp) (hw : Wk E h env hp) (outs : List Id) (hnd : (esL 0 k ++ outs).Nodup)
    (hr : resV h (Env.ev E) rs fun vs => outV h (esL 0 k ++ outs) (retOf vs) fun u obs => Q (.ret u obs)) : wkQ (retX k rs Q) .ret env hp := ⟨E, h, hw, outs, hnd, hr⟩
theorem endN {k : Nat} {rs : List IOp} {Q : Res → Prop} (E : Env) (h : Hp) (hw : Wk E h env hp) (outs : List Id) (hnd : (esL 0 k ++ outs).Nodup)
    (hr : resV h (Env.ev E) rs fun vs => outV h (esL 0 k ++ outs) (retOf vs) fun u obs => Q (.ret u obs)) : wkQ (retX k rs Q) .normal env hp := ⟨E, h, hw, outs, hnd, hr⟩
end Go.Am
end

section
namespace Go.Am
variable {P : Program} {n : Nat} {env : Env} {hp : Hp}
def callJ (P : Program) (g : Nat) (args : List V) (obs : List Ob) (env : Env) (hp : Hp) (ids : List Id) (d : Option Nat) (K : Env → Hp → Prop) (Kp : V → Hp → Prop) : Prop :=
  J P g args obs fun r => match r with
    | .ret v obs' => ∃ base, (d = some base ∨ obs'.length ≤ ids.length) ∧ backV env hp ids base v obs' fun v' env' hp' => K (env'.put d v') hp'
    | .pan v obs' => backV env hp ids 0 v obs' fun v' _ hp' => Kp v' hp'
theorem callS_obj {d : Option Nat} {f : Operand} {xs : List Operand} {K : Env → Hp → Prop} {Kp : V → Hp → Prop} {g : Nat} {caps vs : List V} (ids : List Id) (hf : Env.ev env f = some (.fn g caps)) (hx : xs.mapM (Env.ev env) = some vs) (hnd : ids.Nodup)
    (h : V.seeL false ids (Hp.frz (.tup (V.hideL ids (vs ++ caps ++ boxes hp ids))) hp) (vs ++ caps) (hold fun us => mapLK (toE ids 0) us (hold fun args =>
      handV ids (Hp.frz (.tup (V.hideL ids (vs ++ caps ++ boxes hp ids))) hp) ids (hold fun obs => callJ P g args obs env (Hp.frz (.tup (V.hideL ids (vs ++ caps ++ boxes hp ids))) hp) ids d K Kp)))) : callS P env hp d f xs K Kp :=
  .inr ⟨g, caps, vs, ids, hf, hx, hnd, h⟩
theorem callJ_ret {g : Nat} {args : List V} {obs obs' : List Ob} {ids : List Id} {d : Option Nat} {K : Env → Hp → Prop} {Kp : V → Hp → Prop} {v : V} (base : Nat) (h : J P g args obs (· = .ret v obs')) (hb : d = some base ∨ obs'.length ≤ ids.length)
    (hK : backV env hp ids base v obs' (hold fun v' env' hp' => K (env'.put d v') hp')) : callJ P g args obs env hp ids d K Kp := J.mono h fun r e => by subst e; exact ⟨base, hb, hK⟩
theorem callJ_pan {g : Nat} {args : List V} {obs obs' : List Ob} {ids : List Id} {d : Option Nat} {K : Env → Hp → Prop} {Kp : V → Hp → Prop} {v : V} (h : J P g args obs (· = .pan v obs'))
    (hK : backV env hp ids 0 v obs' fun v' _ hp' => Kp v' hp') : callJ P g args obs env hp ids d K Kp := J.mono h fun r e => by subst e; exact hK
def mapOK (f : Id → Option Id) (o : Ob) (K : Ob → Prop) : Prop := ∃ q, o.mapId f = some q ∧ K q
def mapOsK (f : Id → Option Id) (os : List Ob) (K : List Ob → Prop) : Prop := ∃ q, os.mapM (Ob.mapId f) = some q ∧ K q
section
variable {f : Id → Option Id} {K : Ob → Prop} {Ks : List Ob → Prop}
@[simp] theorem mapOK_gone : mapOK f .gone K = K .gone := by simp [mapOK, Ob.mapId]
@[simp] theorem mapOK_row {ty sz own xs} : mapOK f (.row ty sz own xs) K = K (.row ty sz own xs) := by simp [mapOK, Ob.mapId]
@[simp] theorem mapOK_box {cs} : mapOK f (.box cs) K = mapLK f cs (hold fun us => K (.box us)) := by
  simp only [mapOK, Ob.mapId, mapLK, hold]
  cases V.mapIdL f cs <;> simp
@[simp] theorem mapOsK_nil : mapOsK f [] Ks = Ks [] := by simp [mapOsK]
@[simp] theorem mapOsK_cons {o os} : mapOsK f (o :: os) Ks = mapOK f o (hold fun q => mapOsK f os (hold fun qs => Ks (q :: qs))) := by
  simp only [mapOsK, mapOK, List.mapM_cons, hold]; apply propext
  constructor
  · rintro ⟨us, h1, h2⟩
    simp only [Option.bind_eq_bind, Option.bind_eq_some_iff, Option.pure_def, Option.some.injEq] at h1
    obtain ⟨u, h1, us', h3, rfl⟩ := h1
    exact ⟨u, h1, us', h3, h2⟩
  · rintro ⟨u, h1, us, h2, h3⟩; exact ⟨u :: us, by simp [h1, h2], h3⟩
end
theorem backV_eq {ids base v obs} {K : V → Env → Hp → Prop} : backV env hp ids base v obs K = ((newL base 0 (obs.length - ids.length)).all (fun i => !ids.contains i) = true ∧ mapK (back ids base obs) v (hold fun v' => mapOsK (back ids base obs) obs (hold fun os' =>
    K v' (Env.kills (newL base 0 (obs.length - ids.length)) env) (hpN (ids ++ newL base 0 (obs.length - ids.length)) os' ++ restH ids (Hp.kills (newL base 0 (obs.length - ids.length)) hp))))) := by
  simp only [backV, mapK, mapOsK, hold]; apply propext
  constructor
  · rintro ⟨h1, v', os', h2, h3, h4⟩; exact ⟨h1, v', h2, os', h3, h4⟩
  · rintro ⟨h1, v', h2, os', h3, h4⟩; exact ⟨h1, v', os', h2, h3, h4⟩
attribute [simp] backV_eq newL hpN
@[simp] theorem restH_nil {ids} : restH ids [] = [] := _root_.id rfl
@[simp] theorem restH_cons {ids i o} {h : Hp} : restH ids ((i, o) :: h) = if ids.contains i then restH ids h else (i, o) :: restH ids h := by
  simp only [restH, List.filter_cons]
  cases ids.contains i <;> simp
@[simp] theorem back_e {ids base obs j} : back ids base obs (.e j) = match ids[j]? with
    | some i => match obs[j]? with
      | some .gone => none
      | some _ => some i
      | none => none
    | none => if j < obs.length then some (.l base (j - ids.length)) else none := _root_.id rfl
@[simp] theorem killsE_none (e : Env) : Env.kills [] e = e := by
  induction e with
  | nil => rfl
  | cons p e ih => obtain ⟨s, v⟩ := p; simp [ih]
def callJD (P : Program) (g : Nat) (args : List V) (obs : List Ob) (env : Env) (hp : Hp) (ids : List Id) (d : Option Nat) (T : List Id) (hp0 : Hp) (K Kp : V → Option Eff → Prop) : Prop :=
  ∃ r, J P g args obs (· = r) ∧ match r with
    | .ret v obs' => ∃ base, (d = some base ∨ obs'.length ≤ ids.length) ∧ backV env hp ids base v obs' fun v' _ h => offB T d h = true ∧ K v' (some ⟨[], T, true, h ++ restH T hp0⟩)
    | .pan v obs' => backV env hp ids 0 v obs' fun v' _ h => offB T none h = true ∧ Kp v' (some ⟨[], T, false, h ++ restH T hp0⟩)
theorem callN_obj {d : Option Nat} {f : Operand} {xs : List Operand} {K Kp : V → Option Eff → Prop} {g : Nat} {caps vs : List V} (T ids : List Id) (hf : Env.ev env f = some (.fn g caps)) (hx : xs.mapM (Env.ev env) = some vs) (hnd : ids.Nodup)
    (h : V.seeL false ids (Hp.frz (.tup (V.hideL ids (vs ++ caps ++ boxes (Hp.onl T hp) ids))) (Hp.onl T hp)) (vs ++ caps) (hold fun us => mapLK (toE ids 0) us (hold fun args =>
      handV ids (Hp.frz (.tup (V.hideL ids (vs ++ caps ++ boxes (Hp.onl T hp) ids))) (Hp.onl T hp)) ids (hold fun obs =>
        callJD P g args obs env (Hp.frz (.tup (V.hideL ids (vs ++ caps ++ boxes (Hp.onl T hp) ids))) (Hp.onl T hp)) ids d T hp K Kp)))) : callN P env hp d f xs K Kp :=
  .inr ⟨T, g, caps, vs, ids, hf, hx, hnd, h⟩
theorem callJD_ret {g : Nat} {args : List V} {obs obs' : List Ob} {ids T : List Id} {hp0 : Hp} {d : Option Nat} {K Kp : V → Option Eff → Prop} {v : V} (base : Nat) (h : J P g args obs (· = .ret v obs')) (hb : d = some base ∨ obs'.length ≤ ids.length)
    (hK : backV env hp ids base v obs' (hold fun v' _ h => offB T d h = true ∧ K v' (some ⟨[], T, true, h ++ restH T hp0⟩))) : callJD P g args obs env hp ids d T hp0 K Kp := ⟨_, h, base, hb, hK⟩
theorem callJD_pan {g : Nat} {args : List V} {obs obs' : List Ob} {ids T : List Id} {hp0 : Hp} {d : Option Nat} {K Kp : V → Option Eff → Prop} {v : V} (h : J P g args obs (· = .pan v obs'))
    (hK : backV env hp ids 0 v obs' (hold fun v' _ h => offB T none h = true ∧ Kp v' (some ⟨[], T, false, h ++ restH T hp0⟩))) : callJD P g args obs env hp ids d T hp0 K Kp := ⟨_, h, hK⟩
end Go.Am
end

section
namespace Go.Am
variable {P : Program} {n : Nat} {env : Env} {hp : Hp}
def V.flat : V → Bool
  | .c v => v.oneCell'
  | .lst _ => true
  | .rp _ => true
  | _ => false
def flatL (cs : List V) : Bool := cs.all V.flat
theorem flatL_cons {v : V} {cs : List V} : flatL (v :: cs) = (v.flat && flatL cs) := _root_.id rfl
section
variable {cs : List V} (h : flatL cs = true)
include h
theorem flat_has (i : Id) : V.hasL i cs = false := by
  induction cs with
  | nil => simp
  | cons v cs ih =>
    rw [flatL_cons, Bool.and_eq_true] at h
    simp [ih h.2]
    have hv := h.1
    cases v <;> first | (simp [V.flat] at hv; done) | simp
theorem flat_hasS (ss : List Nat) : V.hasSL ss cs = false := by
  induction cs with
  | nil => simp
  | cons v cs ih =>
    rw [flatL_cons, Bool.and_eq_true] at h
    simp [ih h.2]
    have hv := h.1
    cases v <;> first | (simp [V.flat] at hv; done) | simp
theorem flat_kill (i : Id) : cs.map (V.kill i) = cs := by
  induction cs with
  | nil => simp
  | cons v cs ih =>
    rw [flatL_cons, Bool.and_eq_true] at h
    simp [ih h.2]
    have hv := h.1
    cases v <;> first | (simp [V.flat] at hv; done) | simp
theorem flat_scalars : scalars cs = true := by
  induction cs with
  | nil => simp
  | cons v cs ih =>
    rw [flatL_cons, Bool.and_eq_true] at h
    simp only [scalars, Bool.and_eq_true]
    refine ⟨?_, ih h.2⟩
    have hv := h.1
    cases v <;> first | exact hv | (simp [V.flat] at hv; done)
theorem flat_pure : V.pureL cs = true := by
  induction cs with
  | nil => simp
  | cons v cs ih =>
    rw [flatL_cons, Bool.and_eq_true] at h
    simp [ih h.2]
    have hv := h.1
    cases v <;> first | (simp [V.flat] at hv; done) | simp
theorem flat_view (K : List V → Prop) : V.viewL hp cs K = K cs := by
  induction cs generalizing K with
  | nil => simp
  | cons v cs ih =>
    rw [flatL_cons, Bool.and_eq_true] at h
    rw [viewL_cons]
    simp only [hold, ih h.2]
    have hv := h.1
    cases v <;> first | (simp [V.flat] at hv; done) | simp
theorem flat_see (nl : Bool) (ks : List Id) (K : List V → Prop) : V.seeL nl ks hp cs K = K cs := by
  induction cs generalizing K with
  | nil => simp
  | cons v cs ih =>
    rw [flatL_cons, Bool.and_eq_true] at h
    rw [seeL_cons]
    simp only [hold, ih h.2]
    have hv := h.1
    cases v <;> first | (simp [V.flat] at hv; done) | simp
theorem flat_map (f : Id → Option Id) (K : List V → Prop) : mapLK f cs K = K cs := by
  induction cs generalizing K with
  | nil => simp
  | cons v cs ih =>
    rw [flatL_cons, Bool.and_eq_true] at h
    rw [mapLK_cons]
    simp only [hold, ih h.2]
    have hv := h.1
    cases v <;> first | (simp [V.flat] at hv; done) | simp
theorem flat_hide (ks : List Id) : V.hideL ks cs = cs := by
  induction cs with
  | nil => simp
  | cons v cs ih =>
    rw [flatL_cons, Bool.and_eq_true] at h
    simp [ih h.2]
    have hv := h.1
    cases v <;> first | (simp [V.flat] at hv; done) | simp
end
def callA (P : Program) (g : Nat) (args : List V) (K : V → Prop) : Prop := ∃ v, Ret P g args v ∧ v.pure = true ∧ K v
theorem callA_of {g : Nat} {args : List V} {K : V → Prop} {v : V} (h : Ret P g args v) (hp : v.pure = true) (hK : K v) : callA P g args K := ⟨v, h, hp, hK⟩
theorem callS_go {env : Env} {hp : Hp} {d : Option Nat} {f : Operand} {xs : List Operand} {K : Env → Hp → Prop} {Kp : V → Hp → Prop}
    (h : evK env f (hold fun fv => fnK fv (hold fun g caps => evsK env xs (hold fun vs => V.viewL (Hp.frz (.tup (vs ++ caps)) hp) (vs ++ caps) (hold fun args => V.pureL args = true ∧ callA P g args (hold fun v => K (env.put d v) (Hp.frz (.tup (vs ++ caps)) hp))))))) : callS P env hp d f xs K Kp := by
  rw [evK_eq] at h
  obtain ⟨fv, h1, h⟩ := h
  simp only [hold] at h
  replace h : ∃ g caps, fv = .fn g caps ∧ evsK env xs fun vs => V.viewL (Hp.frz (.tup (vs ++ caps)) hp) (vs ++ caps) fun args => V.pureL args = true ∧ callA P g args fun v => K (env.put d v) (Hp.frz (.tup (vs ++ caps)) hp) := by
    cases fv <;> first | exact h.elim | exact ⟨_, _, rfl, h⟩
  obtain ⟨g, caps, rfl, h⟩ := h
  rw [evsK_eq] at h
  obtain ⟨vs, h2, h⟩ := h
  obtain ⟨us, ⟨h3, v, h4, h5, h6⟩, h7⟩ := viewL_pick h
  exact callS_ret h4 h1 h2 (h7 _ rfl) h3 h5 h6
theorem callN_go {env : Env} {hp : Hp} {d : Option Nat} {f : Operand} {xs : List Operand} {K Kp : V → Option Eff → Prop}
    (h : evK env f (hold fun fv => fnK fv (hold fun g caps => evsK env xs (hold fun vs => V.viewL [] (vs ++ caps) (hold fun args => V.pureL args = true ∧ callA P g args (hold fun v => K v none)))))) : callN P env hp d f xs K Kp := by
  rw [evK_eq] at h
  obtain ⟨fv, h1, h⟩ := h
  simp only [hold] at h
  replace h : ∃ g caps, fv = .fn g caps ∧ evsK env xs fun vs => V.viewL [] (vs ++ caps) fun args => V.pureL args = true ∧ callA P g args fun v => K v none := by
    cases fv <;> first | exact h.elim | exact ⟨_, _, rfl, h⟩
  obtain ⟨g, caps, rfl, h⟩ := h
  rw [evsK_eq] at h
  obtain ⟨vs, h2, h⟩ := h
  obtain ⟨us, ⟨h3, v, h4, h5, h6⟩, h7⟩ := viewL_pick h
  exact callN_ret h4 h1 h2 (h7 _ rfl) h3 h5 h6
theorem elemK_get {α : Type} {f : α → List V} {l : List α} {k : Nat} {K : List V → Prop} (h : k < l.length) : elemK (l.map f) k K = K (f (l[k]'h)) := by
  apply propext
  constructor
  · rintro ⟨e, h1, h2⟩
    rw [List.getElem?_map, List.getElem?_eq_getElem h] at h1
    simp only [Option.map_some, Option.some.injEq] at h1
    subst h1; exact h2
  · intro h2; exact elemK_map h h2
@[simp] theorem take_map_len {α β : Type} {f : α → β} {l : List α} : (l.map f).take l.length = l.map f := List.take_of_length_le (by simp)
@[simp] theorem take_map_app {α β : Type} {f : α → β} {l : List α} {y : β} : (l.map f ++ [y]).take (l.length + 1) = l.map f ++ [y] := List.take_of_length_le (by simp)
@[simp] theorem take_map_set {α β : Type} {f : α → β} {l : List α} {y : β} {k : Nat} : ((l.map f).set k y).take l.length = (l.map f).set k y := List.take_of_length_le (by simp)
@[simp] theorem take_self2 {α : Type} {l : List α} {i : Nat} : (l.take i).take i = l.take i := by simp [List.take_take]
@[simp] theorem take_snoc {α β : Type} {f : α → β} {l : List α} {i : Nat} {h : i < l.length} : (l.map f).take i ++ [f (l[i]'h)] = (l.map f).take (i + 1) := by
  have h' : i < (l.map f).length := by simpa using h
  rw [List.take_succ_eq_append_getElem h']; simp
@[simp] theorem toNat_add2 {i : Nat} : ((i : Int) + 2).toNat = i + 2 := by omega
@[simp] theorem tmod_two {n : Nat} : (n : Int).tmod 2 = ((n % 2 : Nat) : Int) := rfl
theorem lookK_of {t : Nat} {v : V} {K : V → Prop} (h : env.lookup t = some v) : lookK env t K = K v := by
  rw [lookK_eq, h]; simp
@[simp] theorem eqS_dec {a b : ByteArray} : eqS a b = decide (a = b) := _root_.id rfl
theorem leT {a b : Int} (h : a ≤ b) : (a ≤ b) = True := eq_true h
theorem leF {a b : Int} (h : b < a) : (a ≤ b) = False := eq_false (by omega)
theorem ltT {a b : Int} (h : a < b) : (a < b) = True := eq_true h
theorem ltF {a b : Int} (h : b ≤ a) : (a < b) = False := eq_false (by omega)
theorem leTn {a b : Nat} (h : a ≤ b) : (a ≤ b) = True := eq_true h
theorem leFn {a b : Nat} (h : b < a) : (a ≤ b) = False := eq_false (by omega)
theorem ltTn {a b : Nat} (h : a < b) : (a < b) = True := eq_true h
theorem ltFn {a b : Nat} (h : b ≤ a) : (a < b) = False := eq_false (by omega)
theorem wrapI {x : Int} (h1 : -9223372036854775808 ≤ x) (h2 : x < 9223372036854775808) : IntKind.i64.wrap x = x := wrap64 h1 h2
theorem head_map {α : Type} {f : α → List V} {l : List α} {sz : Nat} (h : ∀ x, (f x).length = sz) : (l.map f = [] ∨ ∃ e, (l.map f)[0]? = some e ∧ e.length = sz) = True := by
  apply eq_true
  cases l with
  | nil => exact .inl rfl
  | cons x l => exact .inr ⟨f x, rfl, h x⟩
end Go.Am
end

section
namespace Go.Am
variable {P : Program} {n : Sz} {H : Imm} {μ : Mu} {env : Env} {hp : Hp} {a : Act} {w : World}
def renF (i j : Id) : Id → Option Id := fun x => if x = i then some j else if x = j then none else some x
def unren (i j : Id) : Id → Id := fun x => if x = j then i else x
theorem Wk.rens {E : Env} {h : Hp} (i j : Id) (hj : j.isL = true) (hij : i ≠ j) (hE : ∀ p ∈ E, lookK env p.1 fun v => mapK (renF i j) v (· = p.2))
    (hh : ∀ p ∈ h, p.1 ≠ i ∧ objK hp (unren i j p.1) fun o => mapOK (renF i j) o (· = p.2)) : Wk E h env hp := fun n H μ a w hS => by
  let μ' : Mu := fun x => if x = j then μ i else μ x
  have hμ : ∀ x x', renF i j x = some x' → μ' x' = μ x := by
    intro x x' hx
    unfold renF at hx
    by_cases h1 : x = i
    · subst h1; rw [if_pos rfl] at hx; injection hx with hx; subst hx; simp [μ']
    · rw [if_neg h1] at hx
      by_cases h2 : x = j
      · rw [if_pos h2] at hx; cases hx
      · rw [if_neg h2] at hx; injection hx with hx; subst hx; simp [μ', h2]
  have hun : ∀ x, x ≠ i → renF i j (unren i j x) = some x := by
    intro x hx
    unfold renF unren
    by_cases h1 : x = j
    · subst h1; simp
    · simp [h1, hx]
  have hob : ∀ x o, h.lookup x = some o → x ≠ i ∧ ∃ o', hp.lookup (unren i j x) = some o' ∧ o'.mapId (renF i j) = some o := by
    intro x o hl
    obtain ⟨h1, h2⟩ := hh (x, o) (lookup_mem0 hl)
    rw [objK_eq] at h2
    obtain ⟨o', h3, q, h4, rfl⟩ := h2
    exact ⟨h1, o', h3, h4⟩
  have hW := hS.wd
  refine ⟨μ', ⟨hS.defers, hS.size, fun s v hs => ?_, ⟨fun x o hl => ?_, fun x y ox oy bx by' hx hox hy hoy hbx hby heq => ?_, hW.imm, hW.glo⟩⟩, ⟨⟨Imm.le_refl H, rfl, rfl, rfl, Nat.le_refl _, fun _ _ _ => rfl, fun b hO hb => ?_, fr0⟩, fun k => ?_⟩⟩
  · have h1 := hE (s, v) (lookup_mem0 hs)
    rw [lookK_eq] at h1
    obtain ⟨u, h2, q, h3, rfl⟩ := h1
    exact R.mapId hμ (hS.env s u h2) h3
  · obtain ⟨h1, o', h2, h3⟩ := hob x o hl
    exact ObOk.mapId hμ (hμ _ _ (hun x h1)) (hW.ob _ o' h2) h3
  · obtain ⟨h1, o1, h2, h3⟩ := hob x ox hx
    obtain ⟨k1, o2, k2, k3⟩ := hob y oy hy
    have e1 := hμ _ _ (hun x h1)
    have e2 := hμ _ _ (hun y k1)
    have := hW.inj _ _ o1 o2 bx by' h2 (by rw [← Ob.mapId_own h3]; exact hox) k2 (by rw [← Ob.mapId_own k3]; exact hoy) (by rw [← e1]; exact hbx) (by rw [← e2]; exact hby) heq
    have r1 := hun x h1
    rw [this, hun y k1] at r1
    injection r1 with r1; exact r1.symm
  · obtain ⟨x, o, blk, h1, h2, h3, h4⟩ := hO
    obtain ⟨q1, o1, q2, q3⟩ := hob x o h1
    exact ⟨_, o1, blk, q2, by rw [← Ob.mapId_own q3]; exact h2, by rw [← hμ _ _ (hun x q1)]; exact h3, h4⟩
  · have : Id.e k ≠ j := by rintro rfl; cases hj
    simp [μ', this]
theorem Wk.rowB {b id : Id} {off ty sz : Nat} {cs : List V} (hb : hp.lookup b = some (.box cs)) (hc : cs[off]? = some .nil) (hno : V.hasL id cs = false) (hbi : b ≠ id) (hi : id.isL = true := by rfl) :
    Wk (Env.kills [id] env) ((id, .row ty sz true []) :: Hp.set b (.box (cs.set off (.arr id 0 0))) (Hp.kills [id] hp)) env hp := fun n H μ a w hS => by
  obtain ⟨s1, x1⟩ := hS.clean [id] (by simp [hi])
  have hn : Mu.cut [id] μ id = none := Mu.cut_in (by simp)
  have hb' : (Hp.kills [id] hp).lookup b = some (.box cs) := by
    rw [lookup_killsH, hb]; simp [hbi, Ob.has, hno]
  have hcase : ∀ j o, ((id, Ob.row ty sz true []) :: Hp.set b (.box (cs.set off (.arr id 0 0))) (Hp.kills [id] hp)).lookup j = some o →
      (j = id ∧ o = .row ty sz true []) ∨ (j ≠ id ∧ j = b ∧ o = .box (cs.set off (.arr id 0 0))) ∨ (j ≠ id ∧ j ≠ b ∧ (Hp.kills [id] hp).lookup j = some o) := by
    intro j o h
    rw [List.lookup_cons] at h
    cases e : (j == id) with
    | true => rw [e] at h; injection h with h; exact .inl ⟨eq_of_beq e, h.symm⟩
    | false =>
      rw [e] at h
      have hne : j ≠ id := by simpa using e
      rw [lookup_set] at h
      by_cases hjb : j = b
      · subst hjb
        rw [hb'] at h
        simp at h
        exact .inr (.inl ⟨hne, rfl, h.symm⟩)
      · cases hl : (Hp.kills [id] hp).lookup j with
        | none => rw [hl] at h; cases h
        | some q => rw [hl] at h; simp [hjb] at h; subst h; exact .inr (.inr ⟨hne, hjb, rfl⟩)
  have hW := s1.wd
  have hbox : ObOk H (Mu.cut [id] μ) w b (.box (cs.set off (.arr id 0 0))) := by
    obtain ⟨blk, vals, ty, h1, h2, h3, h4, h5⟩ := hW.ob b _ hb'
    refine ⟨blk, vals, ty, h1, h2, by simpa using h3, h4, fun j v hj => ?_⟩
    rw [List.getElem?_set] at hj
    split at hj
    · rename_i e; subst e
      split at hj
      · injection hj with hj; subst hj
        obtain ⟨x, q1, q2⟩ := h5 off .nil hc
        refine ⟨x, q1, ?_⟩
        cases q2
        exact .arr _ _ _ _ _ (Nat.le_refl _) (.inl rfl)
      · cases hj
    · exact h5 j v hj
  have hown : ∀ j o blk, ((id, Ob.row ty sz true []) :: Hp.set b (.box (cs.set off (.arr id 0 0))) (Hp.kills [id] hp)).lookup j = some o → o.own = true → Mu.cut [id] μ j = some blk → ∃ o', (Hp.kills [id] hp).lookup j = some o' ∧ o'.own = true := by
    intro j o blk h1 h2 h3
    rcases hcase j o h1 with ⟨rfl, rfl⟩ | ⟨_, rfl, rfl⟩ | ⟨_, _, h⟩
    · rw [hn] at h3; cases h3
    · exact ⟨_, hb', rfl⟩
    · exact ⟨o, h, h2⟩
  refine ⟨Mu.cut [id] μ, ⟨s1.defers, s1.size, s1.env, ⟨fun j o h => ?_, fun j k oj ok bj bk hj hoj hk hok hbj hbk heq => ?_, hW.imm, hW.glo⟩⟩, x1.trans ⟨⟨Imm.le_refl H, rfl, rfl, rfl, Nat.le_refl _, fun _ _ _ => rfl, fun c hO hc' => ?_, fr0⟩, fun _ => rfl⟩⟩
  · rcases hcase j o h with ⟨rfl, rfl⟩ | ⟨_, rfl, rfl⟩ | ⟨_, _, h⟩
    · exact .inl ⟨rfl, hn⟩
    · exact hbox
    · exact hW.ob j o h
  · obtain ⟨o1, p1, p2⟩ := hown j oj bj hj hoj hbj
    obtain ⟨o2, p3, p4⟩ := hown k ok bk hk hok hbk
    exact hW.inj j k o1 o2 bj bk p1 p2 p3 p4 hbj hbk heq
  · obtain ⟨j, o, blk, h1, h2, h3, h4⟩ := hO
    obtain ⟨o1, p1, p2⟩ := hown j o blk h1 h2 h3
    exact ⟨j, o1, blk, p1, p2, h3, h4⟩
end Go.Am
end

section
namespace Go.Am
inductive Val where
  | mk (kind num : Int) (text : ByteArray) (list : List Val)
  deriving Inhabited
def Val.kind : Val → Int | .mk k _ _ _ => k
def Val.num : Val → Int | .mk _ n _ _ => n
def Val.text : Val → ByteArray | .mk _ _ t _ => t
def Val.list : Val → List Val | .mk _ _ _ l => l
def Val.cells : Val → List V
  | .mk k n t l => [.c (.int .i64 k), .c (.int .i64 n), .c (.string t), .lst (l.attach.map fun x => x.1.cells)]
termination_by v => v
decreasing_by
  have := List.sizeOf_lt_of_mem x.2
  simp only [Val.mk.sizeOf_spec]; omega
theorem Val.cells_eq (v : Val) : v.cells = [.c (.int .i64 v.kind), .c (.int .i64 v.num), .c (.string v.text), .lst (v.list.map Val.cells)] := by
  obtain ⟨k, n, t, l⟩ := v
  rw [Val.cells]; simp [Val.kind, Val.num, Val.text, Val.list]
theorem Val.flat (x : Val) : flatL x.cells = true := by rw [Val.cells_eq]; rfl
@[simp] theorem Val.cells_len (x : Val) : x.cells.length = 4 := by rw [Val.cells_eq]; rfl
section
variable {x : Val} {K : V → Prop} {Ks : List V → Prop} {hp : Hp}
@[simp] theorem Val.nth0 : nthK x.cells 0 K = K (.c (.int .i64 x.kind)) := by rw [Val.cells_eq]; simp
@[simp] theorem Val.nth1 : nthK x.cells 1 K = K (.c (.int .i64 x.num)) := by rw [Val.cells_eq]; simp
@[simp] theorem Val.nth2 : nthK x.cells 2 K = K (.c (.string x.text)) := by rw [Val.cells_eq]; simp
@[simp] theorem Val.nth3 : nthK x.cells 3 K = K (.lst (x.list.map Val.cells)) := by rw [Val.cells_eq]; simp
@[simp] theorem Val.take1 : x.cells.take 1 = [.c (.int .i64 x.kind)] := by rw [Val.cells_eq]; rfl
@[simp] theorem Val.drop1 : x.cells.drop 1 = [.c (.int .i64 x.num), .c (.string x.text), .lst (x.list.map Val.cells)] := by rw [Val.cells_eq]; rfl
@[simp] theorem Val.take2 : x.cells.take 2 = [.c (.int .i64 x.kind), .c (.int .i64 x.num)] := by rw [Val.cells_eq]; rfl
@[simp] theorem Val.drop2 : x.cells.drop 2 = [.c (.string x.text), .lst (x.list.map Val.cells)] := by rw [Val.cells_eq]; rfl
@[simp] theorem Val.take3 : x.cells.take 3 = [.c (.int .i64 x.kind), .c (.int .i64 x.num), .c (.string x.text)] := by rw [Val.cells_eq]; rfl
@[simp] theorem Val.drop3 : x.cells.drop 3 = [.lst (x.list.map Val.cells)] := by rw [Val.cells_eq]; rfl
@[simp] theorem Val.take4 : x.cells.take 4 = x.cells := List.take_of_length_le (by simp)
@[simp] theorem Val.drop4 : x.cells.drop 4 = [] := by rw [Val.cells_eq]; rfl
@[simp] theorem Val.has0 {i : Id} : V.hasL i x.cells = false := flat_has x.flat i
@[simp] theorem Val.hasS0 {ss : List Nat} : V.hasSL ss x.cells = false := flat_hasS x.flat ss
@[simp] theorem Val.kill0 {i : Id} : x.cells.map (V.kill i) = x.cells := flat_kill x.flat i
@[simp] theorem Val.scalars0 : scalars x.cells = true := flat_scalars x.flat
@[simp] theorem Val.pure0 : V.pureL x.cells = true := flat_pure x.flat
@[simp] theorem Val.view0 : V.viewL hp x.cells Ks = Ks x.cells := flat_view x.flat Ks
@[simp] theorem Val.see0 {nl : Bool} {ks : List Id} : V.seeL nl ks hp x.cells Ks = Ks x.cells := flat_see x.flat nl ks Ks
@[simp] theorem Val.map0 {f : Id → Option Id} : mapLK f x.cells Ks = Ks x.cells := flat_map x.flat f Ks
@[simp] theorem Val.hide0 {ks : List Id} : V.hideL ks x.cells = x.cells := flat_hide x.flat ks
end
@[simp] theorem Val.cells_ne (x : Val) : (x.cells = []) = False := by rw [Val.cells_eq]; simp
@[simp ↓] theorem Val.head {l : List Val} : (l.map Val.cells = [] ∨ ∃ e, (l.map Val.cells)[0]? = some e ∧ e.length = 4) = True := head_map fun x => x.cells_len
@[simp] theorem Val.fold {k n : Int} {t : ByteArray} {l : List Val} : ([.c (.int .i64 k), .c (.int .i64 n), .c (.string t), .lst (l.map Val.cells)] : List V) = (Val.mk k n t l).cells := (Val.cells_eq (Val.mk k n t l)).symm
@[simp] theorem Val.fold0 {k n : Int} {t : ByteArray} : ([.c (.int .i64 k), .c (.int .i64 n), .c (.string t), .lst []] : List V) = (Val.mk k n t []).cells := (Val.cells_eq (Val.mk k n t [])).symm
@[simp] theorem Val.kind_mk {k n t l} : (Val.mk k n t l).kind = k := rfl
@[simp] theorem Val.num_mk {k n t l} : (Val.mk k n t l).num = n := rfl
@[simp] theorem Val.text_mk {k n t l} : (Val.mk k n t l).text = t := rfl
@[simp] theorem Val.list_mk {k n t l} : (Val.mk k n t l).list = l := rfl
@[simp] theorem Val.fold_app {k n : Int} {t : ByteArray} {l : List Val} {x : Val} : ([.c (.int .i64 k), .c (.int .i64 n), .c (.string t), .lst (l.map Val.cells ++ [x.cells])] : List V) = (Val.mk k n t (l ++ [x])).cells := by
  rw [Val.cells_eq (Val.mk k n t (l ++ [x]))]; simp only [Val.kind_mk, Val.num_mk, Val.text_mk, Val.list_mk, List.map_append, List.map_cons, List.map_nil]
@[simp] theorem Val.fold_set {k n : Int} {t : ByteArray} {l : List Val} {x : Val} {i : Nat} : ([.c (.int .i64 k), .c (.int .i64 n), .c (.string t), .lst ((l.map Val.cells).set i x.cells)] : List V) = (Val.mk k n t (l.set i x)).cells := by
  rw [Val.cells_eq (Val.mk k n t (l.set i x))]; simp only [Val.kind_mk, Val.num_mk, Val.text_mk, Val.list_mk, List.map_set]
@[simp] theorem Val.eta (v : Val) : Val.mk v.kind v.num v.text v.list = v := by cases v; rfl
abbrev Val.V (v : Val) : V := .agg v.cells
abbrev valsV (l : List Val) : V := .lst (l.map Val.cells)
theorem Val.sz_lt {v : Val} {x : Val} (h : x ∈ v.list) : SizeOf.sizeOf x < SizeOf.sizeOf v := by
  obtain ⟨k, n, t, l⟩ := v
  have := List.sizeOf_lt_of_mem h
  simp only [Val.list] at this
  simp only [Val.mk.sizeOf_spec]; omega
theorem Val.induct {p : Val → Prop} (h : ∀ v : Val, (∀ x ∈ v.list, p x) → p v) (v : Val) : p v := by
  have : ∀ n (v : Val), SizeOf.sizeOf v ≤ n → p v := by
    intro n
    induction n with
    | zero => intro v hv; obtain ⟨k, n, t, l⟩ := v; simp only [Val.mk.sizeOf_spec] at hv; omega
    | succ n ih => intro v hv; exact h v fun x hx => ih x (by have := Val.sz_lt hx; omega)
  exact this _ v (Nat.le_refl _)
mutual
def Val.wt : Val → Nat
  | .mk _ _ t l => 1 + t.size + Val.wtL l
def Val.wtL : List Val → Nat
  | [] => 0
  | v :: vs => v.wt + Val.wtL vs
end
theorem Val.wt_eq (v : Val) : v.wt = 1 + v.text.size + Val.wtL v.list := by
  obtain ⟨k, n, t, l⟩ := v; simp [Val.wt, Val.text, Val.list]
theorem Val.wtL_take : ∀ (l : List Val) (i : Nat) (h : i < l.length), Val.wtL (l.take (i + 1)) = Val.wtL (l.take i) + (l[i]).wt
  | v :: l, 0, h => by simp [Val.wtL]
  | v :: l, i + 1, h => by
    have := Val.wtL_take l i (by simpa using h)
    simp [Val.wtL, this]; omega
theorem Val.wtL_le : ∀ (l : List Val) (i : Nat), Val.wtL (l.take i) ≤ Val.wtL l
  | [], i => by simp [Val.wtL]
  | v :: l, 0 => by simp [Val.wtL]
  | v :: l, i + 1 => by have := Val.wtL_le l i; simp [Val.wtL]; omega
theorem Val.wtL_mem : ∀ {l : List Val} {x : Val}, x ∈ l → x.wt ≤ Val.wtL l
  | v :: l, x, h => by
    rcases List.mem_cons.1 h with rfl | h
    · simp [Val.wtL]
    · have := Val.wtL_mem h; simp [Val.wtL]; omega
theorem Val.len_wtL : ∀ (l : List Val), l.length ≤ Val.wtL l
  | [] => by simp [Val.wtL]
  | v :: l => by have := Val.len_wtL l; have := v.wt_eq; simp [Val.wtL]; omega
theorem Val.wt_get {v : Val} {b i : Nat} {h : i < v.list.length} (hv : v.wt < b) : v.list[i].wt < b := by
  have := v.wt_eq; have := Val.wtL_mem (List.getElem_mem h); omega
theorem Val.sizes (v : Val) (h : v.wt < 2 ^ 40) : v.list.length < 2 ^ 40 ∧ v.text.size < 2 ^ 40 := by
  have := v.wt_eq; have := Val.len_wtL v.list; omega
end Go.Am
end

section
namespace Go.Am
variable {P : Program} {n : Nat} {env : Env} {hp : Hp}
theorem J_ext {f : FuncId} {fn : Func} {e : Array Value → Sem Value} {args : List V} {v : V} {vs : Array Value} {x : Value} (hf : P.funcs[f]? = some fn) (hn : (fn.name == "runtime.NumGoroutine") = false) (hb : fn.body.isNone = true) (h1 : (Extern.findNext fn).isNone = true)
    (h2 : Extern.find fn = some e) (hargs : ∀ H μ us, RL H μ args us → us = vs) (he : ∀ w, (e vs).run P w = .ok x w) (hx : ∀ H μ, R H μ v x) : Ret P f args v := by
  intro H μ us w h3 h4
  have := hargs H μ us h3
  subst this
  have hn' : ¬ fn.name = "runtime.NumGoroutine" := by simpa using hn
  have h1' : Extern.findNext fn = none := by simpa using h1
  have hb' : fn.body = none := by simpa using hb
  have hrun : (callFunc f us).run P w = .ok (.value x) w := by
    simp [callFunc, hf, hn', hb', h1', h2, he, mark]
    rfl
  unfold Called
  rw [hrun]
  exact ⟨_, H, μ, rfl, ⟨x, rfl, hx H μ⟩, (Nx.refl H μ (hpE 0 []) w).toNj, h4, Nat.le_refl _, fun j o hj => by simp at hj⟩
theorem RL.two {H : Imm} {μ : Mu} {x y : Value} {us : Array Value} (h : RL H μ [.c x, .c y] us) : us = #[x, y] := by
  have h0 := (h.2 0 _ rfl).c_inv
  have h1 := (h.2 1 _ rfl).c_inv
  have hs := h.1
  simp at hs
  apply Array.ext
  · simp [hs]
  · intro i h2 h3
    have : i = 0 ∨ i = 1 := by simp at h3; omega
    rcases this with rfl | rfl
    · simpa [Array.getD, h2] using h0
    · simpa [Array.getD, h2] using h1
end Go.Am
end

section
namespace Go.Am
attribute [local irreducible] vc vcIs vcI vcOp vcD vcDp vcDR vcT vcAR stepD stepDp panD neG ne pv J callS callN loopS lookK evK evsK nthK objK boxK rowK boolK intK strK aggK fnK ifcK cellsK cellsLK ldK ldaK iaK srcK stK appK appD isnlD pvK callJ callJD callA
abbrev vI (n : Int) : V := .c (.int .i64 n)
abbrev vB (b : Bool) : V := .c (.bool b)
abbrev vS (s : ByteArray) : V := .c (.string s)
abbrev noS : ByteArray := { data := { toList := [] } }
def Val.int (n : Int) : Val := .mk 1 n noS []
def Val.bool (b : Bool) : Val := .mk 2 (if b then 1 else 0) noS []
def Val.str (s : ByteArray) : Val := .mk 3 0 s []
def Val.zero : Val := .mk 0 0 noS []
theorem value_Int_spec (n : Int) : Ret prog f_value_Int [vI n] (Val.int n).V := by
  refine J_pure fn_value_Int (by simp) ?_
  simp (config := { contextual := true, maxSteps := 2000000 }) (disch := omega) [-Int.not_lt, -Int.not_le, -Nat.not_lt, -Nat.not_le, elemK_get, wrapI, leT, leF, ltT, ltF, leTn, leFn, ltTn, ltFn, cd_value_Int, Val.int]
theorem value_Bool_spec (b : Bool) : Ret prog f_value_Bool [vB b] (Val.bool b).V := by
  refine J_pure fn_value_Bool (by simp) ?_
  simp (config := { contextual := true, maxSteps := 2000000 }) (disch := omega) [-Int.not_lt, -Int.not_le, -Nat.not_lt, -Nat.not_le, elemK_get, wrapI, leT, leF, ltT, ltF, leTn, leFn, ltTn, ltFn, cd_value_Bool, Val.bool]
theorem value_Text_spec (s : ByteArray) : Ret prog f_value_Text [vS s] (Val.str s).V := by
  refine J_pure fn_value_Text (by simp) ?_
  simp (config := { contextual := true, maxSteps := 2000000 }) (disch := omega) [-Int.not_lt, -Int.not_le, -Nat.not_lt, -Nat.not_le, elemK_get, wrapI, leT, leF, ltT, ltF, leTn, leFn, ltTn, ltFn, cd_value_Text, Val.str]
def Val.len (v : Val) : Int × Int :=
  if v.kind = 3 then (v.text.size, 0) else if v.kind = 4 then (v.list.length, 0) else if v.kind = 5 then ((v.list.length / 2 : Nat), 0) else (0, 40)
theorem value_Len_spec (v : Val) (hv : v.wt < 2 ^ 40) : Ret prog f_value_Len [v.V] (.tup [vI v.len.1, vI v.len.2]) := by
  have hs := v.sizes hv
  refine J_pure fn_value_Len (by simp) ?_
  simp (config := { contextual := true, maxSteps := 2000000 }) (disch := omega) [-Int.not_lt, -Int.not_le, -Nat.not_lt, -Nat.not_le, elemK_get, wrapI, leT, leF, ltT, ltF, leTn, leFn, ltTn, ltFn, cd_value_Len, Val.len]
theorem value_Weight_spec (v : Val) : v.wt < 2 ^ 62 → Ret prog f_value_Weight [v.V] (vI v.wt) := by
  induction v using Val.induct with
  | h v ih =>
  intro h
  have hw := v.wt_eq
  have hlen := Val.len_wtL v.list
  refine J_pure fn_value_Weight (by simp) ?_
  simp (config := { contextual := true, maxSteps := 2000000 }) (disch := omega) [-Int.not_lt, -Int.not_le, -Nat.not_lt, -Nat.not_le, elemK_get, wrapI, leT, leF, ltT, ltF, leTn, leFn, ltTn, ltFn, cd_value_Weight]
  refine loopS_for v.list.length
    (fun i => [(13, vI i), (12, vI v.list.length), (11, valsV v.list), (3, vI ((1 + v.text.size + Val.wtL (v.list.take i) : Nat) : Int)), (2, vI 0), (1, .bp (.l 1 0) 0)])
    (fun _ => [(.l 1 0, .box v.cells)]) (Wk.subs (by simp [Val.wtL]) (by simp)) ?_
  intro i hi
  simp (config := { contextual := true, maxSteps := 2000000 }) (disch := omega) [-Int.not_lt, -Int.not_le, -Nat.not_lt, -Nat.not_le, elemK_get, wrapI, leT, leF, ltT, ltF, leTn, leFn, ltTn, ltFn]
  refine ⟨fun hlt => ?_, fun hge => ?_⟩
  · have hx := ih _ (List.getElem_mem hlt)
    have hxw := Val.wtL_mem (List.getElem_mem hlt)
    have htk := Val.wtL_take v.list i hlt
    have hle := Val.wtL_le v.list (i + 1)
    refine callS_ret (hx (by omega)) rfl rfl (by simp) (by simp) (by simp) ?_
    simp (config := { contextual := true, maxSteps := 2000000 }) (disch := omega) [-Int.not_lt, -Int.not_le, -Nat.not_lt, -Nat.not_le, elemK_get, wrapI, leT, leF, ltT, ltF, leTn, leFn, ltTn, ltFn]
    refine .of hlt (Wk.subs (by simp; omega) (by simp))
  · rw [List.take_of_length_le (by omega)]; omega
theorem slices_Clone_spec (l : List Val) (hl : l.length < 2 ^ 40) : J prog f_slices_Clone__api_Value_api_Value [valsV l] [] (· = .ret (.arr (.e 0) 0 l.length) [.row t_api_Value 4 true (l.map Val.cells)]) := by
  refine J_genW fn_slices_Clone__api_Value_api_Value (by simp) ?_
  simp (config := { contextual := true, maxSteps := 2000000 }) (disch := omega) [-Int.not_lt, -Int.not_le, -Nat.not_lt, -Nat.not_le, elemK_get, wrapI, leT, leF, ltT, ltF, leTn, leFn, ltTn, ltFn, cd_slices_Clone__api_Value_api_Value]
  refine ⟨?_, fun hnil => ?_⟩
  · refine endR _ _ (Wk.refl _ _) [.l 7 0] (by simp) ?_
    simp
  · subst hnil
    refine endR _ _ (Wk.row (s := 2) (id := .l 7 0) (ty := t_api_Value) (sz := 4) rfl) [.l 7 0] (by simp) ?_
    simp
theorem value_Copy_both (v : Val) : v.wt < 2 ^ 40 → Ret prog f_value_Copy [v.V] v.V ∧
    J prog f_value_Copy [v.V] [] (· = .ret (.agg [vI v.kind, vI v.num, vS v.text, .arr (.e 0) 0 v.list.length]) [.row t_api_Value 4 true (v.list.map Val.cells)]) := by
  induction v using Val.induct with
  | h v ih =>
  intro h
  have hw := v.wt_eq
  have hlen := Val.len_wtL v.list
  have body : ∀ Q : Qs, (∀ env', env'.lookup 2 = some (.bp (.l 2 0) 0) → Q .ret env'
      [(.l 6 0, .row t_api_Value 4 true (v.list.map Val.cells)), (.l 1 0, .box [vI v.kind, vI v.num, vS v.text, .arr (.l 6 0) 0 v.list.length]), (.l 2 0, .box [vI v.kind, vI v.num, vS v.text, .arr (.l 6 0) 0 v.list.length])]) →
      vc prog cd_value_Copy (envOfArgs 0 [v.V]) [] Q := by
    intro Q hQ
    simp (config := { contextual := true, maxSteps := 2000000 }) (disch := omega) [-Int.not_lt, -Int.not_le, -Nat.not_lt, -Nat.not_le, elemK_get, wrapI, leT, leF, ltT, ltF, leTn, leFn, ltTn, ltFn, cd_value_Copy]
    refine callS_obj [] rfl rfl (by simp) ?_
    simp
    refine callJ_ret 6 (slices_Clone_spec v.list (by omega)) (by simp) ?_
    simp (config := { contextual := true, maxSteps := 2000000 }) (disch := omega) [-Int.not_lt, -Int.not_le, -Nat.not_lt, -Nat.not_le, elemK_get, wrapI, leT, leF, ltT, ltF, leTn, leFn, ltTn, ltFn]
    refine loopS_for v.list.length
      (fun i => [(11, vI i), (10, vI v.list.length), (2, .bp (.l 2 0) 0), (1, .bp (.l 1 0) 0)])
      (fun _ => [(.l 6 0, .row t_api_Value 4 true (v.list.map Val.cells)), (.l 1 0, .box [vI v.kind, vI v.num, vS v.text, .arr (.l 6 0) 0 v.list.length]), (.l 2 0, .box [vI 0, vI 0, vS noS, .nil])]) (Wk.subs (by simp) (by simp)) ?_
    intro i hi
    simp (config := { contextual := true, maxSteps := 2000000 }) (disch := omega) [-Int.not_lt, -Int.not_le, -Nat.not_lt, -Nat.not_le, elemK_get, wrapI, leT, leF, ltT, ltF, leTn, leFn, ltTn, ltFn]
    refine ⟨fun hlt => ?_, fun hge => ?_⟩
    · have hx := ih _ (List.getElem_mem hlt)
      have hxw := Val.wtL_mem (List.getElem_mem hlt)
      refine callN_ret (hx (by omega)).1 rfl rfl (by simp) (by simp) (by simp) ?_
      simp (config := { contextual := true, maxSteps := 2000000 }) (disch := omega) [-Int.not_lt, -Int.not_le, -Nat.not_lt, -Nat.not_le, elemK_get, wrapI, leT, leF, ltT, ltF, leTn, leFn, ltTn, ltFn, hlt]
      refine .of hlt (Wk.subs (by simp) (by simp))
    · exact hQ _ rfl
  refine ⟨?_, ?_⟩
  · refine J_pure fn_value_Copy (by simp) (body _ fun env' h2 => ?_)
    simp (config := { contextual := true, maxSteps := 2000000 }) (disch := omega) [-Int.not_lt, -Int.not_le, -Nat.not_lt, -Nat.not_le, elemK_get, wrapI, leT, leF, ltT, ltF, leTn, leFn, ltTn, ltFn, lookK_of h2]
  · refine J_genW fn_value_Copy (by simp) (body _ fun env' h2 => ?_)
    refine endR _ _ (Wk.refl _ _) [.l 6 0] (by simp) ?_
    simp (config := { contextual := true, maxSteps := 2000000 }) (disch := omega) [-Int.not_lt, -Int.not_le, -Nat.not_lt, -Nat.not_le, elemK_get, wrapI, leT, leF, ltT, ltF, leTn, leFn, ltTn, ltFn, lookK_of h2]
theorem value_Copy_spec (v : Val) (h : v.wt < 2 ^ 40) : Ret prog f_value_Copy [v.V] v.V := (value_Copy_both v h).1
theorem value_Copy_own (v : Val) (h : v.wt < 2 ^ 40) : J prog f_value_Copy [v.V] [] (· = .ret (.agg [vI v.kind, vI v.num, vS v.text, .arr (.e 0) 0 v.list.length]) [.row t_api_Value 4 true (v.list.map Val.cells)]) := (value_Copy_both v h).2
end Go.Am
end

section
namespace Go.Am
attribute [local irreducible] vc vcIs vcI vcOp vcD vcDp vcDR vcT vcAR stepD stepDp panD neG ne pv J callS callN loopS lookK evK evsK nthK objK boxK rowK boolK intK strK aggK fnK ifcK cellsK cellsLK ldK ldaK iaK srcK stK appK appD isnlD pvK callJ callJD callA
theorem cmp_isNaN_spec (a : Int) : Ret prog f_cmp_isNaN_int [vI a] (vB false) := by
  refine J_pure fn_cmp_isNaN_int (by simp) ?_
  simp (config := { contextual := true, maxSteps := 2000000 }) (disch := omega) [-Int.not_lt, -Int.not_le, -Nat.not_lt, -Nat.not_le, elemK_get, wrapI, leT, leF, ltT, ltF, leTn, leFn, ltTn, ltFn, cd_cmp_isNaN_int]
def cmpI (a b : Int) : Int := if a < b then -1 else if a > b then 1 else 0
theorem cmp_Compare_int_spec (a b : Int) : Ret prog f_cmp_Compare_int [vI a, vI b] (vI (cmpI a b)) := by
  refine J_pure fn_cmp_Compare_int (by simp) ?_
  simp (config := { contextual := true, maxSteps := 2000000 }) (disch := omega) [-Int.not_lt, -Int.not_le, -Nat.not_lt, -Nat.not_le, elemK_get, wrapI, leT, leF, ltT, ltF, leTn, leFn, ltTn, ltFn, cd_cmp_Compare_int]
  refine callS_go ?_; simp; refine callA_of (cmp_isNaN_spec a) (by simp) ?_
  simp (config := { contextual := true, maxSteps := 2000000 }) (disch := omega) [-Int.not_lt, -Int.not_le, -Nat.not_lt, -Nat.not_le, elemK_get, wrapI, leT, leF, ltT, ltF, leTn, leFn, ltTn, ltFn]
  refine callS_go ?_; simp; refine callA_of (cmp_isNaN_spec b) (by simp) ?_
  simp (config := { contextual := true, maxSteps := 2000000 }) (disch := omega) [-Int.not_lt, -Int.not_le, -Nat.not_lt, -Nat.not_le, elemK_get, wrapI, leT, leF, ltT, ltF, leTn, leFn, ltTn, ltFn, cmpI]
theorem cmpstring_spec (a b : ByteArray) : Ret prog f_internal_bytealg_abigen_runtime_cmpstring [vS a, vS b] (vI (Lib.compareBytes a.data.toList b.data.toList)) :=
  J_ext (fn := Go.Proofs.Tryz.f134) Go.Proofs.Tryz.func134 (by kernel_rfl) (by kernel_rfl) (by kernel_rfl) (e := Extern.BytealgCompare.compare) (by kernel_rfl) (fun H μ us h => h.two) (fun w => Lib.run_compareString a b w) (fun H μ => .c _)
theorem bytealg_CompareString_spec (a b : ByteArray) : Ret prog f_internal_bytealg_CompareString [vS a, vS b] (vI (Lib.compareBytes a.data.toList b.data.toList)) := by
  refine J_pure fn_internal_bytealg_CompareString (by simp) ?_
  simp (config := { contextual := true, maxSteps := 2000000 }) (disch := omega) [-Int.not_lt, -Int.not_le, -Nat.not_lt, -Nat.not_le, elemK_get, wrapI, leT, leF, ltT, ltF, leTn, leFn, ltTn, ltFn, cd_internal_bytealg_CompareString]
  refine callS_go ?_; simp; refine callA_of (cmpstring_spec a b) (by simp) ?_
  simp (config := { contextual := true, maxSteps := 2000000 }) (disch := omega) [-Int.not_lt, -Int.not_le, -Nat.not_lt, -Nat.not_le, elemK_get, wrapI, leT, leF, ltT, ltF, leTn, leFn, ltTn, ltFn]
theorem strings_Compare_spec (a b : ByteArray) : Ret prog f_strings_Compare [vS a, vS b] (vI (Lib.compareBytes a.data.toList b.data.toList)) := by
  refine J_pure fn_strings_Compare (by simp) ?_
  simp (config := { contextual := true, maxSteps := 2000000 }) (disch := omega) [-Int.not_lt, -Int.not_le, -Nat.not_lt, -Nat.not_le, elemK_get, wrapI, leT, leF, ltT, ltF, leTn, leFn, ltTn, ltFn, cd_strings_Compare]
  refine callS_go ?_; simp; refine callA_of (bytealg_CompareString_spec a b) (by simp) ?_
  simp (config := { contextual := true, maxSteps := 2000000 }) (disch := omega) [-Int.not_lt, -Int.not_le, -Nat.not_lt, -Nat.not_le, elemK_get, wrapI, leT, leF, ltT, ltF, leTn, leFn, ltTn, ltFn]
def orI : List Int → Int
  | [] => 0
  | x :: xs => if x ≠ 0 then x else orI xs
theorem cmp_Or_spec (xs : List Int) (hl : xs.length < 2 ^ 40) : Ret prog f_cmp_Or_int [.lst (xs.map fun i => [vI i])] (vI (orI xs)) := by
  refine J_pure fn_cmp_Or_int (by simp) ?_
  simp (config := { contextual := true, maxSteps := 2000000 }) (disch := omega) [-Int.not_lt, -Int.not_le, -Nat.not_lt, -Nat.not_le, elemK_get, wrapI, leT, leF, ltT, ltF, leTn, leFn, ltTn, ltFn, cd_cmp_Or_int]
  refine loopS_while (fun i : Nat => xs.length - i) (fun i => [(8, vI i), (7, vI xs.length), (6, .lst (xs.map fun i => [vI i])), (3, vI 0), (2, vI 0)]) (fun _ => [])
    (fun i => i ≤ xs.length ∧ orI xs = orI (xs.drop i)) 0 (by simp) (Wk.subs (by simp) (by simp)) ?_
  rintro i ⟨hi, ho⟩
  simp (config := { contextual := true, maxSteps := 2000000 }) (disch := omega) [-Int.not_lt, -Int.not_le, -Nat.not_lt, -Nat.not_le, elemK_get, wrapI, leT, leF, ltT, ltF, leTn, leFn, ltTn, ltFn]
  refine ⟨fun hlt => ⟨fun hne => ?_, fun he => ?_⟩, fun hge => ?_⟩
  · have hd : xs.drop i = xs[i] :: xs.drop (i + 1) := List.drop_eq_getElem_cons hlt
    rw [ho, hd, orI, if_pos hne]
  · have hd : xs.drop i = xs[i] :: xs.drop (i + 1) := List.drop_eq_getElem_cons hlt
    rw [hd, orI, if_neg (by simpa using he)] at ho
    exact .of (i + 1) ⟨hlt, ho⟩ (by omega) (Wk.subs (by simp) (by simp))
  · rw [ho, List.drop_eq_nil_of_le (by omega)]; rfl
def cmpLF (f : Val → Val → Int) : List Val → List Val → Int
  | [], [] => 0
  | [], _ :: _ => -1
  | _ :: _, [] => 1
  | x :: xs, y :: ys => if f x y ≠ 0 then f x y else cmpLF f xs ys
theorem CompareFunc_spec (f : Val → Val → Int) (g : Nat) (l1 l2 : List Val) (h1 : l1.length < 2 ^ 40) (h2 : l2.length < 2 ^ 40) (hf : ∀ x ∈ l1, ∀ y ∈ l2, Ret prog g [x.V, y.V] (vI (f x y))) :
    Ret prog f_slices_CompareFunc__api_Value_api_Value_api_Value_api_Value [valsV l1, valsV l2, .fn g []] (vI (cmpLF f l1 l2)) := by
  refine J_pure fn_slices_CompareFunc__api_Value_api_Value_api_Value_api_Value (by simp) ?_
  simp (config := { contextual := true, maxSteps := 2000000 }) (disch := omega) [-Int.not_lt, -Int.not_le, -Nat.not_lt, -Nat.not_le, elemK_get, wrapI, leT, leF, ltT, ltF, leTn, leFn, ltTn, ltFn, cd_slices_CompareFunc__api_Value_api_Value_api_Value_api_Value]
  refine loopS_while (fun i : Nat => l1.length - i) (fun i => [(13, vI i), (12, vI l1.length), (11, valsV l1), (0, valsV l1), (1, valsV l2), (2, .fn g []), (6, vI 0)]) (fun _ => [])
    (fun i => i ≤ l1.length ∧ i ≤ l2.length ∧ cmpLF f l1 l2 = cmpLF f (l1.drop i) (l2.drop i)) 0 (by simp) (Wk.subs (by simp) (by simp)) ?_
  rintro i ⟨hi1, hi2, ho⟩
  simp (config := { contextual := true, maxSteps := 2000000 }) (disch := omega) [-Int.not_lt, -Int.not_le, -Nat.not_lt, -Nat.not_le, elemK_get, wrapI, leT, leF, ltT, ltF, leTn, leFn, ltTn, ltFn]
  refine ⟨fun hlt => ⟨fun hle => ?_, fun hlt2 => ?_⟩, fun hge => ⟨fun hlt => ?_, fun hle => ?_⟩⟩
  · have hd : l1.drop i = l1[i] :: l1.drop (i + 1) := List.drop_eq_getElem_cons hlt
    rw [ho, hd, List.drop_eq_nil_of_le hle]; rfl
  · have hlt2 : i < l2.length := by omega
    have hd : l1.drop i = l1[i] :: l1.drop (i + 1) := List.drop_eq_getElem_cons hlt
    have hd2 : l2.drop i = l2[i] :: l2.drop (i + 1) := List.drop_eq_getElem_cons hlt2
    rw [hd, hd2, cmpLF] at ho
    refine callS_go ?_; simp; refine callA_of (hf _ (List.getElem_mem hlt) _ (List.getElem_mem hlt2)) (by simp) ?_
    simp (config := { contextual := true, maxSteps := 2000000 }) (disch := omega) [-Int.not_lt, -Int.not_le, -Nat.not_lt, -Nat.not_le, elemK_get, wrapI, leT, leF, ltT, ltF, leTn, leFn, ltTn, ltFn]
    refine ⟨fun hne => ?_, fun he => ?_⟩
    · rw [if_pos hne] at ho; exact ho.symm
    · rw [if_neg (by simpa using he)] at ho
      exact .of (i + 1) ⟨hlt, hlt2, ho⟩ (by omega) (Wk.subs (by simp) (by simp))
  · have hi : i = l1.length := by omega
    subst hi
    rw [List.drop_length] at ho
    have hd2 : l2.drop l1.length = l2[l1.length] :: l2.drop (l1.length + 1) := List.drop_eq_getElem_cons hlt
    rw [ho, hd2]; rfl
  · have hi : i = l1.length := by omega
    subst hi
    rw [List.drop_length] at ho
    rw [ho, List.drop_eq_nil_of_le (by omega)]; rfl
mutual
def Val.cmp : Val → Val → Int
  | .mk k n t l, .mk k' n' t' l' => orI [cmpI k k', cmpI n n', Lib.compareBytes t.data.toList t'.data.toList, Val.cmpL l l']
def Val.cmpL : List Val → List Val → Int
  | [], [] => 0
  | [], _ :: _ => -1
  | _ :: _, [] => 1
  | x :: xs, y :: ys => if x.cmp y ≠ 0 then x.cmp y else Val.cmpL xs ys
end
theorem Val.cmpL_eq : ∀ l1 l2 : List Val, Val.cmpL l1 l2 = cmpLF Val.cmp l1 l2
  | [], [] => by rw [Val.cmpL, cmpLF]
  | [], _ :: _ => by rw [Val.cmpL, cmpLF]
  | _ :: _, [] => by rw [Val.cmpL, cmpLF]
  | x :: xs, y :: ys => by rw [Val.cmpL, cmpLF, Val.cmpL_eq xs ys]
theorem Val.cmp_eq (v u : Val) : v.cmp u = orI [cmpI v.kind u.kind, cmpI v.num u.num, Lib.compareBytes v.text.data.toList u.text.data.toList, Val.cmpL v.list u.list] := by
  obtain ⟨k, n, t, l⟩ := v
  obtain ⟨k', n', t', l'⟩ := u
  rw [Val.cmp]; rfl
theorem value_Compare_spec (v : Val) : ∀ u : Val, v.wt < 2 ^ 40 → u.wt < 2 ^ 40 → Ret prog f_value_Compare [v.V, u.V] (vI (v.cmp u)) := by
  induction v using Val.induct with
  | h v ih =>
  intro u hv hu
  have hw := v.wt_eq
  have hlen := Val.len_wtL v.list
  have hw' := u.wt_eq
  have hlen' := Val.len_wtL u.list
  refine J_pure fn_value_Compare (by simp) ?_
  simp (config := { contextual := true, maxSteps := 2000000 }) (disch := omega) [-Int.not_lt, -Int.not_le, -Nat.not_lt, -Nat.not_le, elemK_get, wrapI, leT, leF, ltT, ltF, leTn, leFn, ltTn, ltFn, cd_value_Compare]
  refine callN_go ?_; simp; refine callA_of (cmp_Compare_int_spec v.kind u.kind) (by simp) ?_
  simp (config := { contextual := true, maxSteps := 2000000 }) (disch := omega) [-Int.not_lt, -Int.not_le, -Nat.not_lt, -Nat.not_le, elemK_get, wrapI, leT, leF, ltT, ltF, leTn, leFn, ltTn, ltFn]
  refine callN_go ?_; simp; refine callA_of (cmp_Compare_int_spec v.num u.num) (by simp) ?_
  simp (config := { contextual := true, maxSteps := 2000000 }) (disch := omega) [-Int.not_lt, -Int.not_le, -Nat.not_lt, -Nat.not_le, elemK_get, wrapI, leT, leF, ltT, ltF, leTn, leFn, ltTn, ltFn]
  refine callN_go ?_; simp; refine callA_of (strings_Compare_spec v.text u.text) (by simp) ?_
  simp (config := { contextual := true, maxSteps := 2000000 }) (disch := omega) [-Int.not_lt, -Int.not_le, -Nat.not_lt, -Nat.not_le, elemK_get, wrapI, leT, leF, ltT, ltF, leTn, leFn, ltTn, ltFn]
  refine callS_go ?_; simp; refine callA_of (CompareFunc_spec Val.cmp f_value_Compare v.list u.list (by omega) (by omega) fun x hx y hy => ih x hx y (by have := Val.wtL_mem hx; omega) (by have := Val.wtL_mem hy; omega)) (by simp) ?_
  simp (config := { contextual := true, maxSteps := 2000000 }) (disch := omega) [-Int.not_lt, -Int.not_le, -Nat.not_lt, -Nat.not_le, elemK_get, wrapI, leT, leF, ltT, ltF, leTn, leFn, ltTn, ltFn]
  refine callS_go ?_; simp; refine callA_of (cmp_Or_spec [cmpI v.kind u.kind, cmpI v.num u.num, Lib.compareBytes v.text.data.toList u.text.data.toList, cmpLF Val.cmp v.list u.list] (by simp)) (by simp) ?_
  simp (config := { contextual := true, maxSteps := 2000000 }) (disch := omega) [-Int.not_lt, -Int.not_le, -Nat.not_lt, -Nat.not_le, elemK_get, wrapI, leT, leF, ltT, ltF, leTn, leFn, ltTn, ltFn, Val.cmp_eq v u, Val.cmpL_eq]
def findL (k : Val) : List Val → Nat → Nat × Bool
  | x :: y :: l, i => if x.cmp k ≥ 0 then (i, x.cmp k == 0) else findL k l (i + 2)
  | [_], i => (i + 1, false)
  | [], i => (i, false)
theorem findL_lt (k : Val) : ∀ (l : List Val) (i : Nat), (findL k l i).1 ≤ i + l.length ∧ ((findL k l i).2 = true → (findL k l i).1 + 1 < i + l.length)
  | x :: y :: l, i => by
    unfold findL
    split
    · exact ⟨by simp, fun _ => by simp⟩
    · obtain ⟨h1, h2⟩ := findL_lt k l (i + 2)
      exact ⟨by simp; omega, fun h => by have := h2 h; simp; omega⟩
  | [_], i => by simp [findL]
  | [], i => by simp [findL]
theorem value_find_spec (v k : Val) (hv : v.wt < 2 ^ 40) (hk : k.wt < 2 ^ 40) : Ret prog f_value_find [v.V, k.V] (.tup [vI (findL k v.list 0).1, vB (findL k v.list 0).2]) := by
  have hs := v.sizes hv
  have hw := v.wt_eq
  refine J_pure fn_value_find (by simp) ?_
  simp (config := { contextual := true, maxSteps := 2000000 }) (disch := omega) [-Int.not_lt, -Int.not_le, -Nat.not_lt, -Nat.not_le, elemK_get, wrapI, leT, leF, ltT, ltF, leTn, leFn, ltTn, ltFn, cd_value_find]
  refine loopS_while (fun i : Nat => v.list.length - i) (fun i => [(6, vI i), (2, .bp (.l 2 0) 0), (3, .bp (.l 3 0) 0)]) (fun _ => [(.l 2 0, .box v.cells), (.l 3 0, .box k.cells)])
    (fun i => i ≤ v.list.length ∧ findL k v.list 0 = findL k (v.list.drop i) i) 0 (by simp) (Wk.subs (by simp) (by simp)) ?_
  rintro i ⟨hi, ho⟩
  simp (config := { contextual := true, maxSteps := 2000000 }) (disch := omega) [-Int.not_lt, -Int.not_le, -Nat.not_lt, -Nat.not_le, elemK_get, wrapI, leT, leF, ltT, ltF, leTn, leFn, ltTn, ltFn]
  refine ⟨fun hlt => ?_, fun hge => ?_⟩
  · have hlt : i + 1 < v.list.length := by omega
    have hd : v.list.drop i = v.list[i] :: v.list[i + 1] :: v.list.drop (i + 2) := by
      rw [List.drop_eq_getElem_cons (by omega), List.drop_eq_getElem_cons hlt]
    rw [hd, findL] at ho
    have hx := Val.wtL_mem (List.getElem_mem (show i < v.list.length by omega))
    refine callS_go ?_; simp; refine callA_of (value_Compare_spec v.list[i] k (by omega) hk) (by simp) ?_
    simp (config := { contextual := true, maxSteps := 2000000 }) (disch := omega) [-Int.not_lt, -Int.not_le, -Nat.not_lt, -Nat.not_le, elemK_get, wrapI, leT, leF, ltT, ltF, leTn, leFn, ltTn, ltFn]
    refine ⟨fun hge => ?_, fun hl => ?_⟩
    · rw [ho, if_pos hge]; simp
    · rw [if_neg (by omega)] at ho
      exact .of (i + 2) ⟨by omega, ho⟩ (by omega) (Wk.subs (by simp) (by simp))
  · rw [ho]
    have : (v.list.drop i).length ≤ 1 := by simp; omega
    match hm : v.list.drop i with
    | [] => simp [findL]; have := congrArg List.length hm; simp at this; omega
    | [x] => simp [findL]; have := congrArg List.length hm; simp at this; omega
    | x :: y :: l => rw [hm] at this; simp at this
end Go.Am
end

section
namespace Go.Am
set_option maxRecDepth 100000
attribute [local irreducible] vc vcIs vcI vcOp vcD vcDp vcDR vcT vcAR stepD stepDp panD neG ne pv J callS callN loopS lookK evK evsK nthK objK boxK rowK boolK intK strK aggK fnK ifcK cellsK cellsLK ldK ldaK iaK srcK stK appK appD isnlD pvK callJ callJD callA
def Val.has (v k : Val) : Bool × Int := if v.kind = 5 then ((findL k v.list 0).2, 0) else (false, 40)
theorem value_Has_spec (v k : Val) (hv : v.wt < 2 ^ 40) (hk : k.wt < 2 ^ 40) : Ret prog f_value_Has [v.V, k.V] (.tup [vB (v.has k).1, vI (v.has k).2]) := by
  refine J_pure fn_value_Has (by simp) ?_
  simp (config := { contextual := true, maxSteps := 2000000 }) (disch := omega) [-Int.not_lt, -Int.not_le, -Nat.not_lt, -Nat.not_le, elemK_get, wrapI, leT, leF, ltT, ltF, leTn, leFn, ltTn, ltFn, cd_value_Has, Val.has]
  intro h
  refine callS_go ?_; simp; refine callA_of (value_find_spec v k hv hk) (by simp) ?_
  simp (config := { contextual := true, maxSteps := 2000000 }) (disch := omega) [-Int.not_lt, -Int.not_le, -Nat.not_lt, -Nat.not_le, elemK_get, wrapI, leT, leF, ltT, ltF, leTn, leFn, ltTn, ltFn]
def Val.at (v k : Val) : Val × Int :=
  if v.kind = 4 ∧ k.kind = 1 then (if k.num < 0 ∨ (v.list.length : Int) ≤ k.num then (Val.zero, 52) else (v.list.getD k.num.toNat Val.zero, 0))
  else if v.kind = 5 then (if (findL k v.list 0).2 then (v.list.getD ((findL k v.list 0).1 + 1) Val.zero, 0) else (Val.zero, 52)) else (Val.zero, 40)
theorem value_At_spec (v k : Val) (hv : v.wt < 2 ^ 40) (hk : k.wt < 2 ^ 40) : Ret prog f_value_At [v.V, k.V] (.tup [(v.at k).1.V, vI (v.at k).2]) := by
  have hs := v.sizes hv
  have hw := v.wt_eq
  refine J_pure fn_value_At (by simp) ?_
  simp (config := { contextual := true, maxSteps := 2000000 }) (disch := omega) [-Int.not_lt, -Int.not_le, -Nat.not_lt, -Nat.not_le, elemK_get, wrapI, leT, leF, ltT, ltF, leTn, leFn, ltTn, ltFn, cd_value_At]
  (repeat' (first | apply And.intro | intro _))
  all_goals first
    | omega
    | (simp [Val.at, Val.zero, *]; done)
    | (refine callS_go ?_; simp; refine callA_of (value_Copy_spec _ (Val.wt_get hv)) (by simp) ?_
       simp (config := { contextual := true, maxSteps := 2000000 }) (disch := omega) [-Int.not_lt, -Int.not_le, -Nat.not_lt, -Nat.not_le, elemK_get, wrapI, leT, leF, ltT, ltF, leTn, leFn, ltTn, ltFn]
       simp [Val.at, *]
       rw [List.getElem?_eq_getElem (by omega)]; rfl)
    | skip
  refine callS_go ?_; simp; refine callA_of (value_find_spec v k hv hk) (by simp) ?_
  have hf := (findL_lt k v.list 0).2
  cases hb : (findL k v.list 0).2 with
  | false => simp (config := { contextual := true, maxSteps := 2000000 }) (disch := omega) [-Int.not_lt, -Int.not_le, -Nat.not_lt, -Nat.not_le, elemK_get, wrapI, leT, leF, ltT, ltF, leTn, leFn, ltTn, ltFn, hb, Val.at, Val.zero, *]
  | true =>
    have hf := hf hb
    simp (config := { contextual := true, maxSteps := 2000000 }) (disch := omega) [-Int.not_lt, -Int.not_le, -Nat.not_lt, -Nat.not_le, elemK_get, wrapI, leT, leF, ltT, ltF, leTn, leFn, ltTn, ltFn, hb]
    refine callS_go ?_; simp; refine callA_of (value_Copy_spec _ (Val.wt_get hv)) (by simp) ?_
    simp (config := { contextual := true, maxSteps := 2000000 }) (disch := omega) [-Int.not_lt, -Int.not_le, -Nat.not_lt, -Nat.not_le, elemK_get, wrapI, leT, leF, ltT, ltF, leTn, leFn, ltTn, ltFn, Val.at, *]
def bounded (v : Val) : Val × Int := if (v.wt : Int) > 16384 then (Val.zero, 53) else (v, 0)
theorem value_bounded_spec (v : Val) (hv : v.wt < 2 ^ 62) : Ret prog f_value_bounded [v.V] (.tup [(bounded v).1.V, vI (bounded v).2]) := by
  refine J_pure fn_value_bounded (by simp) ?_
  simp (config := { contextual := true, maxSteps := 2000000 }) (disch := omega) [-Int.not_lt, -Int.not_le, -Nat.not_lt, -Nat.not_le, elemK_get, wrapI, leT, leF, ltT, ltF, leTn, leFn, ltTn, ltFn, cd_value_bounded]
  refine callS_go ?_; simp; refine callA_of (value_Weight_spec v hv) (by simp) ?_
  simp (config := { contextual := true, maxSteps := 2000000 }) (disch := omega) [-Int.not_lt, -Int.not_le, -Nat.not_lt, -Nat.not_le, elemK_get, wrapI, leT, leF, ltT, ltF, leTn, leFn, ltTn, ltFn]
  (repeat' (first | apply And.intro | intro _))
  all_goals simp [bounded, Val.zero, *]
def Val.push (v x : Val) : Val × Int :=
  if v.kind = 4 then (if (v.list.length : Int) ≥ 64 then (Val.zero, 53) else bounded (.mk v.kind v.num v.text (v.list ++ [x]))) else (Val.zero, 40)
theorem Val.wtL_append (a b : List Val) : Val.wtL (a ++ b) = Val.wtL a + Val.wtL b := by
  induction a with
  | nil => simp [Val.wtL]
  | cons x a ih => simp [Val.wtL, ih]; omega
theorem value_Push_spec (v x : Val) (hv : v.wt < 2 ^ 40) (hx : x.wt < 2 ^ 40) : Ret prog f_value_Push [v.V, x.V] (.tup [(v.push x).1.V, vI (v.push x).2]) := by
  have hs := v.sizes hv
  have hw := v.wt_eq
  have hb : (Val.mk v.kind v.num v.text (v.list ++ [x])).wt < 2 ^ 62 := by
    rw [Val.wt_eq]; simp [Val.wtL_append, Val.wtL]; omega
  refine J_pure fn_value_Push (by simp) ?_
  simp (config := { contextual := true, maxSteps := 2000000 }) (disch := omega) [-Int.not_lt, -Int.not_le, -Nat.not_lt, -Nat.not_le, elemK_get, wrapI, leT, leF, ltT, ltF, leTn, leFn, ltTn, ltFn, cd_value_Push]
  (repeat' (first | apply And.intro | intro _))
  all_goals first
    | (simp [Val.push, Val.zero, *]; done)
    | skip
  refine callS_obj [] rfl rfl (by simp) ?_
  simp
  refine callJ_ret 17 (value_Copy_own v hv) (by simp) ?_
  simp (config := { contextual := true, maxSteps := 2000000 }) (disch := omega) [-Int.not_lt, -Int.not_le, -Nat.not_lt, -Nat.not_le, elemK_get, wrapI, leT, leF, ltT, ltF, leTn, leFn, ltTn, ltFn]
  refine callN_go ?_; simp; refine callA_of (value_Copy_spec x hx) (by simp) ?_
  simp (config := { contextual := true, maxSteps := 2000000 }) (disch := omega) [-Int.not_lt, -Int.not_le, -Nat.not_lt, -Nat.not_le, elemK_get, wrapI, leT, leF, ltT, ltF, leTn, leFn, ltTn, ltFn]
  refine callS_go ?_; simp; refine callA_of (value_bounded_spec (Val.mk v.kind v.num v.text (v.list ++ [x])) hb) (by simp) ?_
  simp (config := { contextual := true, maxSteps := 2000000 }) (disch := omega) [-Int.not_lt, -Int.not_le, -Nat.not_lt, -Nat.not_le, elemK_get, wrapI, leT, leF, ltT, ltF, leTn, leFn, ltTn, ltFn]
  simp [Val.push, *]
end Go.Am
end

section
namespace Go.Am
set_option maxRecDepth 100000
attribute [local irreducible] vc vcIs vcI vcOp vcD vcDp vcDR vcT vcAR stepD stepDp panD neG ne pv J callS callN loopS lookK evK evsK nthK objK boxK rowK boolK intK strK aggK fnK ifcK cellsK cellsLK ldK ldaK iaK srcK stK appK appD isnlD pvK callJ callJD callA
theorem cmpB_eq : ∀ (a b : List UInt8), a = b → Lib.compareBytes a b = 0
  | [], _, rfl => rfl
  | x :: xs, _, rfl => by
    have := cmpB_eq xs xs rfl
    simp [Lib.compareBytes, this, UInt8.lt_irrefl]
theorem cmpB_ne : ∀ (a b : List UInt8), a ≠ b → Lib.compareBytes a b = if Op.bytesLess a b then -1 else 1
  | [], [], h => absurd rfl h
  | [], _ :: _, _ => by simp [Lib.compareBytes, Op.bytesLess]
  | _ :: _, [], _ => by simp [Lib.compareBytes, Op.bytesLess]
  | x :: xs, y :: ys, h => by
    unfold Lib.compareBytes Op.bytesLess
    by_cases h1 : x < y
    · simp [h1]
    · by_cases h2 : y < x
      · have : ¬ x = y := fun e => by subst e; exact h1 h2
        simp [h1, h2, this]
      · have e : x = y := by
          apply UInt8.toNat_inj.1
          rw [UInt8.lt_iff_toNat_lt] at h1 h2; omega
        subst e
        have := cmpB_ne xs ys (by rintro rfl; exact h rfl)
        simp [h1, this]
theorem cmpS (a b : ByteArray) : Lib.compareBytes a.data.toList b.data.toList = if a = b then 0 else if ltS a b then -1 else 1 := by
  by_cases h : a = b
  · subst h; simp [cmpB_eq]
  · rw [if_neg h, cmpB_ne _ _ (fun e => h ?_)]; rfl
    cases a; cases b; simp at e; simp [e]
theorem cmpLF_len (f : Val → Val → Int) : ∀ (a b : List Val), (∀ (i : Nat) (h1 : i < a.length) (h2 : i < b.length), f a[i] b[i] = 0) → cmpLF f a b = if a.length < b.length then -1 else if b.length < a.length then 1 else 0
  | [], [], _ => rfl
  | [], _ :: _, _ => by simp [cmpLF]
  | _ :: _, [], _ => by simp [cmpLF]
  | x :: xs, y :: ys, h => by
    have h0 := h 0 (by simp) (by simp)
    simp at h0
    have := cmpLF_len f xs ys fun i h1 h2 => h (i + 1) (by simpa using h1) (by simpa using h2)
    simp [cmpLF, h0, this]
theorem ref09_Compare_spec (v : Val) : ∀ u : Val, v.wt < 2 ^ 40 → u.wt < 2 ^ 40 → Ret prog f_quernref09_Compare [v.V, u.V] (vI (v.cmp u)) := by
  induction v using Val.induct with
  | h v ih =>
  intro u hv hu
  have hs := v.sizes hv
  have hs' := u.sizes hu
  have hw := v.wt_eq
  have hw' := u.wt_eq
  have hc := Val.cmp_eq v u
  simp only [cmpS, Val.cmpL_eq] at hc
  refine J_pure fn_quernref09_Compare (by simp) ?_
  by_cases hk : v.kind = u.kind
  · by_cases hn : v.num = u.num
    · by_cases ht : v.text = u.text
      · have hc : v.cmp u = cmpLF Val.cmp v.list u.list := by rw [hc]; simp [orI, cmpI, hk, hn, ht]; intro h; exact h.symm
        simp (config := { contextual := true, maxSteps := 2000000 }) (disch := omega) [-Int.not_lt, -Int.not_le, -Nat.not_lt, -Nat.not_le, elemK_get, wrapI, leT, leF, ltT, ltF, leTn, leFn, ltTn, ltFn, cd_quernref09_Compare, hk, hn, ht]
        refine loopS_while (fun i : Nat => v.list.length - i) (fun i => [(5, vI i), (2, .bp (.l 2 0) 0), (3, .bp (.l 3 0) 0)]) (fun _ => [(.l 2 0, .box v.cells), (.l 3 0, .box u.cells)])
          (fun i => i ≤ v.list.length ∧ i ≤ u.list.length ∧ ∀ (j : Nat) (h1 : j < v.list.length) (h2 : j < u.list.length), j < i → (v.list[j]).cmp u.list[j] = 0) 0 (by simp) (Wk.subs (by simp) (by simp)) ?_
        rintro i ⟨hi1, hi2, ho⟩
        have heq : cmpLF Val.cmp v.list u.list = cmpLF Val.cmp (v.list.drop i) (u.list.drop i) := by
          clear hc
          induction i with
          | zero => simp
          | succ i ihi =>
            rw [ihi (by omega) (by omega) fun j h1 h2 h3 => ho j h1 h2 (by omega), List.drop_eq_getElem_cons (by omega : i < v.list.length), List.drop_eq_getElem_cons (by omega : i < u.list.length), cmpLF, if_neg (by simp [ho i (by omega) (by omega) (by omega)])]
        simp (config := { contextual := true, maxSteps := 2000000 }) (disch := omega) [-Int.not_lt, -Int.not_le, -Nat.not_lt, -Nat.not_le, elemK_get, wrapI, leT, leF, ltT, ltF, leTn, leFn, ltTn, ltFn]
        refine ⟨fun h1 => ⟨fun h2 => ?_, fun h2 => ?_⟩, fun h1 => ?_⟩
        · have d1 : v.list.drop i = v.list[i] :: v.list.drop (i + 1) := List.drop_eq_getElem_cons h1
          have d2 : u.list.drop i = u.list[i] :: u.list.drop (i + 1) := List.drop_eq_getElem_cons h2
          rw [d1, d2, cmpLF] at heq
          have hx := Val.wtL_mem (List.getElem_mem h1)
          have hy := Val.wtL_mem (List.getElem_mem h2)
          refine callS_go ?_; simp; refine callA_of (ih _ (List.getElem_mem h1) _ (by omega) (by omega)) (by simp) ?_
          simp (config := { contextual := true, maxSteps := 2000000 }) (disch := omega) [-Int.not_lt, -Int.not_le, -Nat.not_lt, -Nat.not_le, elemK_get, wrapI, leT, leF, ltT, ltF, leTn, leFn, ltTn, ltFn]
          refine ⟨fun hne => ?_, fun he => ?_⟩
          · rw [hc, heq, if_pos hne]
          · refine .of (i + 1) ⟨by omega, by omega, fun j q1 q2 q3 => ?_⟩ (by omega) (Wk.subs (by simp) (by simp))
            by_cases hj : j = i
            · subst hj; simpa using he
            · exact ho j q1 q2 (by omega)
        · have e : i = u.list.length := by omega
          have := cmpLF_len Val.cmp v.list u.list fun j q1 q2 => ho j q1 q2 (by omega)
          rw [hc, this]
          simp (config := { contextual := true, maxSteps := 2000000 }) (disch := omega) [-Int.not_lt, -Int.not_le, -Nat.not_lt, -Nat.not_le, elemK_get, wrapI, leT, leF, ltT, ltF, leTn, leFn, ltTn, ltFn]
        · have e : i = v.list.length := by omega
          have := cmpLF_len Val.cmp v.list u.list fun j q1 q2 => ho j q1 q2 (by omega)
          rw [hc, this]
          simp (config := { contextual := true, maxSteps := 2000000 }) (disch := omega) [-Int.not_lt, -Int.not_le, -Nat.not_lt, -Nat.not_le, elemK_get, wrapI, leT, leF, ltT, ltF, leTn, leFn, ltTn, ltFn]
      · have hc : v.cmp u = if ltS v.text u.text then -1 else 1 := by rw [hc]; by_cases hl : ltS v.text u.text <;> simp [orI, cmpI, hk, hn, ht, hl]
        simp (config := { contextual := true, maxSteps := 2000000 }) (disch := omega) [-Int.not_lt, -Int.not_le, -Nat.not_lt, -Nat.not_le, elemK_get, wrapI, leT, leF, ltT, ltF, leTn, leFn, ltTn, ltFn, cd_quernref09_Compare, hk, hn, ht, hc]
    · have hc : v.cmp u = if v.num < u.num then -1 else 1 := by
        rw [hc]; by_cases hl : v.num < u.num
        · simp [orI, cmpI, hk, hl]
        · have : u.num < v.num := by omega
          simp [orI, cmpI, hk, hl, this]
      simp (config := { contextual := true, maxSteps := 2000000 }) (disch := omega) [-Int.not_lt, -Int.not_le, -Nat.not_lt, -Nat.not_le, elemK_get, wrapI, leT, leF, ltT, ltF, leTn, leFn, ltTn, ltFn, cd_quernref09_Compare, hk, hn, hc]
  · have hc : v.cmp u = if v.kind < u.kind then -1 else 1 := by
      rw [hc]; by_cases hl : v.kind < u.kind
      · simp [orI, cmpI, hl]
      · have : u.kind < v.kind := by omega
        simp [orI, cmpI, hl, this]
    simp (config := { contextual := true, maxSteps := 2000000 }) (disch := omega) [-Int.not_lt, -Int.not_le, -Nat.not_lt, -Nat.not_le, elemK_get, wrapI, leT, leF, ltT, ltF, leTn, leFn, ltTn, ltFn, cd_quernref09_Compare, hk, hc]
theorem ref09_Same_spec (v u : Val) (hv : v.wt < 2 ^ 40) (hu : u.wt < 2 ^ 40) : Ret prog f_quernref09_Same [v.V, u.V] (vB (v.cmp u == 0)) := by
  refine J_pure fn_quernref09_Same (by simp) ?_
  simp (config := { contextual := true, maxSteps := 2000000 }) (disch := omega) [-Int.not_lt, -Int.not_le, -Nat.not_lt, -Nat.not_le, elemK_get, wrapI, leT, leF, ltT, ltF, leTn, leFn, ltTn, ltFn, cd_quernref09_Same]
  refine callS_go ?_; simp; refine callA_of (ref09_Compare_spec v u hv hu) (by simp) ?_
  simp (config := { contextual := true, maxSteps := 2000000 }) (disch := omega) [-Int.not_lt, -Int.not_le, -Nat.not_lt, -Nat.not_le, elemK_get, wrapI, leT, leF, ltT, ltF, leTn, leFn, ltTn, ltFn]
end Go.Am
end

section
namespace Go.Am
set_option maxRecDepth 100000
attribute [local irreducible] vc vcIs vcI vcOp vcD vcDp vcDR vcT vcAR stepD stepDp panD neG ne pv J callS callN loopS lookK evK evsK nthK objK boxK rowK boolK intK strK aggK fnK ifcK cellsK cellsLK ldK ldaK iaK srcK stK appK appD isnlD pvK callJ callJD callA
theorem cmpI_zero (a b : Int) : cmpI a b = 0 ↔ a = b := by
  unfold cmpI; split
  · constructor <;> intro h <;> omega
  · split
    · constructor <;> intro h <;> omega
    · constructor <;> intro h <;> omega
theorem cmpLF_zero (f : Val → Val → Int) : ∀ (a b : List Val), (∀ x ∈ a, ∀ y ∈ b, f x y = 0 ↔ x = y) → (cmpLF f a b = 0 ↔ a = b)
  | [], [], _ => by simp [cmpLF]
  | [], _ :: _, _ => by simp [cmpLF]
  | _ :: _, [], _ => by simp [cmpLF]
  | x :: xs, y :: ys, h => by
    have h0 := h x (by simp) y (by simp)
    have ih := cmpLF_zero f xs ys fun a ha b hb => h a (by simp [ha]) b (by simp [hb])
    by_cases e : f x y = 0
    · have exy := h0.1 e
      subst exy
      simp [cmpLF, e, ih]
    · have : x ≠ y := fun q => e (h0.2 q)
      simp [cmpLF, e, this]
theorem Val.ext' {v u : Val} (h1 : v.kind = u.kind) (h2 : v.num = u.num) (h3 : v.text = u.text) (h4 : v.list = u.list) : v = u := by
  cases v; cases u; simp_all [Val.kind, Val.num, Val.text, Val.list]
theorem Val.cmp_zero (v : Val) : ∀ u : Val, v.cmp u = 0 ↔ v = u := by
  induction v using Val.induct with
  | h v ih =>
  intro u
  have hl := cmpLF_zero Val.cmp v.list u.list fun x hx y _ => ih x hx y
  rw [Val.cmp_eq, Val.cmpL_eq, cmpS]
  constructor
  · intro h
    simp only [orI] at h
    by_cases h1 : cmpI v.kind u.kind = 0
    · by_cases h2 : cmpI v.num u.num = 0
      · by_cases h3 : v.text = u.text
        · simp [h1, h2, h3] at h
          by_cases h4 : cmpLF Val.cmp v.list u.list = 0
          · exact Val.ext' ((cmpI_zero _ _).1 h1) ((cmpI_zero _ _).1 h2) h3 (hl.1 h4)
          · simp [h4] at h
        · by_cases h5 : ltS v.text u.text <;> simp [h1, h2, h3, h5] at h
      · simp [h1, h2] at h
    · simp [h1] at h
  · rintro rfl
    have := hl.2 rfl
    simp [orI, cmpI, this]
instance : DecidableEq Val := fun v u => decidable_of_iff _ (Val.cmp_zero v u)
theorem ref09_Same_spec' (v u : Val) (hv : v.wt < 2 ^ 40) (hu : u.wt < 2 ^ 40) : Ret prog f_quernref09_Same [v.V, u.V] (vB (decide (v = u))) := by
  have := ref09_Same_spec v u hv hu
  have e : (v.cmp u == 0) = decide (v = u) := by
    rw [Bool.eq_iff_iff]; simp [Val.cmp_zero]
  rwa [e] at this
theorem Val.wtL_get {l : List Val} {b i : Nat} {h : i < l.length} (hl : Val.wtL l < b) : l[i].wt < b := by
  have := Val.wtL_mem (List.getElem_mem h); omega
theorem ref09_SameAll_spec (a b : List Val) (ha : Val.wtL a < 2 ^ 40) (hb : Val.wtL b < 2 ^ 40) : Ret prog f_quernref09_SameAll [valsV a, valsV b] (vB (decide (a = b))) := by
  have la := Val.len_wtL a
  have lb := Val.len_wtL b
  refine J_pure fn_quernref09_SameAll (by simp) ?_
  simp (config := { contextual := true, maxSteps := 2000000 }) (disch := omega) [-Int.not_lt, -Int.not_le, -Nat.not_lt, -Nat.not_le, elemK_get, wrapI, leT, leF, ltT, ltF, leTn, leFn, ltTn, ltFn, cd_quernref09_SameAll]
  refine ⟨fun h => ?_, fun hlen => ?_⟩
  · rintro rfl; exact absurd rfl h
  have hlen : a.length = b.length := by omega
  refine loopS_while (fun i : Nat => a.length - i) (fun i => [(13, vI i), (12, vI a.length), (0, valsV a), (1, valsV b)]) (fun _ => []) (fun i => i ≤ a.length ∧ ∀ (j : Nat) (h1 : j < a.length) (h2 : j < b.length), j < i → a[j] = b[j]) 0 (by simp) (Wk.subs (by simp [hlen]) (by simp)) ?_
  rintro i ⟨hi, ho⟩
  simp (config := { contextual := true, maxSteps := 2000000 }) (disch := omega) [-Int.not_lt, -Int.not_le, -Nat.not_lt, -Nat.not_le, elemK_get, wrapI, leT, leF, ltT, ltF, leTn, leFn, ltTn, ltFn]
  refine ⟨fun hlt => ?_, fun hge => ?_⟩
  · refine callS_go ?_; simp; refine callA_of (ref09_Same_spec' a[i] (b[i]'(by omega)) (Val.wtL_get ha) (Val.wtL_get hb)) (by simp) ?_
    simp (config := { contextual := true, maxSteps := 2000000 }) (disch := omega) [-Int.not_lt, -Int.not_le, -Nat.not_lt, -Nat.not_le, elemK_get, wrapI, leT, leF, ltT, ltF, leTn, leFn, ltTn, ltFn]
    refine ⟨fun he => ?_, fun hne => ?_⟩
    rotate_left
    · rintro rfl; exact hne rfl
    · refine .of (i + 1) ⟨by omega, fun j h1 h2 h3 => ?_⟩ (by omega) (Wk.subs (by simp) (by simp))
      by_cases hj : j = i
      · subst hj; exact he
      · exact ho j h1 (by omega) (by omega)
  · exact List.ext_getElem hlen fun j h1 h2 => ho j h1 h2 (by omega)
theorem vm_copies_spec (l : List Val) (hl : Val.wtL l < 2 ^ 40) : Ret prog f_vm_copies [valsV l] (valsV l) := by
  have hlen := Val.len_wtL l
  refine J_pure fn_vm_copies (by simp) ?_
  simp (config := { contextual := true, maxSteps := 2000000 }) (disch := omega) [-Int.not_lt, -Int.not_le, -Nat.not_lt, -Nat.not_le, elemK_get, wrapI, leT, leF, ltT, ltF, leTn, leFn, ltTn, ltFn, cd_vm_copies]
  refine loopS_for l.length (fun i => [(8, vI i), (7, vI l.length), (6, valsV l), (3, .arr (.l 16 0) 0 i)]) (fun i => [(.l 16 0, .row t_api_Value 4 true ((l.take i).map Val.cells))])
    (Wk.trans (Wk.subs (by simp) (by simp)) (Wk.row (s := 3) (id := .l 16 0) (ty := t_api_Value) (sz := 4) rfl)) ?_
  intro i hi
  simp (config := { contextual := true, maxSteps := 2000000 }) (disch := omega) [-Int.not_lt, -Int.not_le, -Nat.not_lt, -Nat.not_le, elemK_get, wrapI, leT, leF, ltT, ltF, leTn, leFn, ltTn, ltFn]
  refine ⟨fun hlt => ?_, fun hge => ?_⟩
  · refine callS_go ?_; simp; refine callA_of (value_Copy_spec _ (Val.wtL_get hl)) (by simp) ?_
    simp (config := { contextual := true, maxSteps := 2000000 }) (disch := omega) [-Int.not_lt, -Int.not_le, -Nat.not_lt, -Nat.not_le, elemK_get, wrapI, leT, leF, ltT, ltF, leTn, leFn, ltTn, ltFn]
    exact .of hlt (Wk.subs (by simp) (by simp))
  · have : i = l.length := by omega
    subst this
    simp (config := { contextual := true, maxSteps := 2000000 }) (disch := omega) [-Int.not_lt, -Int.not_le, -Nat.not_lt, -Nat.not_le, elemK_get, wrapI, leT, leF, ltT, ltF, leTn, leFn, ltTn, ltFn]
theorem IndexFunc_spec (p : Val → Bool) (g : Nat) (caps : List V) (l : List Val) (hc : flatL caps = true) (hl : l.length < 2 ^ 40) (hp : ∀ x ∈ l, Ret prog g (x.V :: caps) (vB (p x))) :
    Ret prog f_slices_IndexFunc__api_Value_api_Value [valsV l, .fn g caps] (vI (match l.findIdx? p with | some i => (i : Int) | none => -1)) := by
  refine J_pure fn_slices_IndexFunc__api_Value_api_Value (by simp) ?_
  simp (config := { contextual := true, maxSteps := 2000000 }) (disch := omega) [-Int.not_lt, -Int.not_le, -Nat.not_lt, -Nat.not_le, elemK_get, wrapI, leT, leF, ltT, ltF, leTn, leFn, ltTn, ltFn, cd_slices_IndexFunc__api_Value_api_Value]
  refine loopS_while (fun i : Nat => l.length - i) (fun i => [(8, vI i), (7, vI l.length), (0, valsV l), (1, .fn g caps)]) (fun _ => []) (fun i => i ≤ l.length ∧ ∀ (j : Nat) (h : j < l.length), j < i → p l[j] = false) 0 (by simp) (Wk.subs (by simp) (by simp)) ?_
  rintro i ⟨hi, ho⟩
  simp (config := { contextual := true, maxSteps := 2000000 }) (disch := omega) [-Int.not_lt, -Int.not_le, -Nat.not_lt, -Nat.not_le, elemK_get, wrapI, leT, leF, ltT, ltF, leTn, leFn, ltTn, ltFn]
  refine ⟨fun hlt => ?_, fun hge => ?_⟩
  · refine callS_ret (hp _ (List.getElem_mem hlt)) rfl rfl (by simp [flat_view hc]) (by simp [flat_pure hc]) (by simp) ?_
    simp (config := { contextual := true, maxSteps := 2000000 }) (disch := omega) [-Int.not_lt, -Int.not_le, -Nat.not_lt, -Nat.not_le, elemK_get, wrapI, leT, leF, ltT, ltF, leTn, leFn, ltTn, ltFn, flat_has hc]
    refine ⟨fun ht => ?_, fun hf => ?_⟩
    · have : l.findIdx? p = some i := by
        rw [List.findIdx?_eq_some_iff_getElem]
        exact ⟨hlt, ht, fun j hj => by simp [ho j (by omega) hj]⟩
      rw [this]
    · refine .of (i + 1) ⟨by omega, fun j h1 h2 => ?_⟩ (by omega) (Wk.subs (by simp) (by simp))
      by_cases hj : j = i
      · subst hj; exact hf
      · exact ho j h1 (by omega)
  · have : l.findIdx? p = none := by
      rw [List.findIdx?_eq_none_iff]
      intro x hx
      obtain ⟨j, hj, rfl⟩ := List.getElem_of_mem hx
      exact ho j hj (by omega)
    rw [this]
theorem ContainsFunc_spec (p : Val → Bool) (g : Nat) (caps : List V) (l : List Val) (hc : flatL caps = true) (hl : l.length < 2 ^ 40) (hp : ∀ x ∈ l, Ret prog g (x.V :: caps) (vB (p x))) :
    Ret prog f_slices_ContainsFunc__api_Value_api_Value [valsV l, .fn g caps] (vB (l.any p)) := by
  refine J_pure fn_slices_ContainsFunc__api_Value_api_Value (by simp) ?_
  simp (config := { contextual := true, maxSteps := 2000000 }) (disch := omega) [-Int.not_lt, -Int.not_le, -Nat.not_lt, -Nat.not_le, elemK_get, wrapI, leT, leF, ltT, ltF, leTn, leFn, ltTn, ltFn, cd_slices_ContainsFunc__api_Value_api_Value]
  refine callS_ret (IndexFunc_spec p g caps l hc hl hp) rfl rfl (by simp) (by simp [flat_pure hc]) (by simp) ?_
  simp (config := { contextual := true, maxSteps := 2000000 }) (disch := omega) [-Int.not_lt, -Int.not_le, -Nat.not_lt, -Nat.not_le, elemK_get, wrapI, leT, leF, ltT, ltF, leTn, leFn, ltTn, ltFn]
  cases hf : l.findIdx? p with
  | none =>
    rw [List.findIdx?_eq_none_iff] at hf
    have : l.any p = false := by rw [List.any_eq_false]; intro x hx; simp [hf x hx]
    simp [this]
  | some i =>
    rw [List.findIdx?_eq_some_iff_getElem] at hf
    obtain ⟨h1, h2, _⟩ := hf
    have : l.any p = true := by rw [List.any_eq_true]; exact ⟨_, List.getElem_mem h1, h2⟩
    simp [this]
def rise : List Val → Bool
  | x :: y :: z :: l => decide (x.cmp z < 0) && rise (z :: l)
  | _ => true
mutual
def Val.sound : Val → Bool
  | .mk k n t l =>
    if k = 1 then decide (t = noS) && decide (l.length = 0)
    else if k = 2 then decide (t = noS) && decide (l.length = 0) && (decide (n = 0) || decide (n = 1))
    else if k = 3 then decide (n = 0) && decide (l.length = 0) && decide (t.size ≤ 256)
    else if k = 4 then decide (n = 0) && decide (t = noS) && Val.soundL l && decide (l.length ≤ 64)
    else if k = 5 then decide (n = 0) && decide (t = noS) && Val.soundL l && (rise l && decide (l.length % 2 = 0) && decide (l.length ≤ 128))
    else false
def Val.soundL : List Val → Bool
  | [] => true
  | v :: vs => v.sound && Val.soundL vs
end
theorem Val.soundL_all (l : List Val) : Val.soundL l = l.all Val.sound := by
  induction l with
  | nil => rfl
  | cons v l ih => rw [Val.soundL, List.all_cons, ih]
theorem Val.sound_eq (v : Val) : v.sound = if v.kind = 1 then decide (v.text = noS) && decide (v.list.length = 0)
    else if v.kind = 2 then decide (v.text = noS) && decide (v.list.length = 0) && (decide (v.num = 0) || decide (v.num = 1))
    else if v.kind = 3 then decide (v.num = 0) && decide (v.list.length = 0) && decide (v.text.size ≤ 256)
    else if v.kind = 4 then decide (v.num = 0) && decide (v.text = noS) && v.list.all Val.sound && decide (v.list.length ≤ 64)
    else if v.kind = 5 then decide (v.num = 0) && decide (v.text = noS) && v.list.all Val.sound && (rise v.list && decide (v.list.length % 2 = 0) && decide (v.list.length ≤ 128))
    else false := by
  obtain ⟨k, n, t, l⟩ := v
  rw [Val.sound, Val.soundL_all]; rfl
theorem vm_rising_spec (l : List Val) (hl : Val.wtL l < 2 ^ 40) : Ret prog f_vm_rising [valsV l] (vB (rise l && decide (l.length % 2 = 0) && decide (l.length ≤ 128))) := by
  have hlen := Val.len_wtL l
  refine J_pure fn_vm_rising (by simp) ?_
  simp (config := { contextual := true, maxSteps := 2000000 }) (disch := omega) [-Int.not_lt, -Int.not_le, -Nat.not_lt, -Nat.not_le, elemK_get, wrapI, leT, leF, ltT, ltF, leTn, leFn, ltTn, ltFn, cd_vm_rising]
  refine loopS_while (fun i : Nat => l.length - i) (fun i => [(3, vI (i + 2 : Nat)), (0, valsV l)]) (fun _ => []) (fun i => (i ≤ l.length) ∧ rise l = rise (l.drop i)) 0 (by simp) (Wk.subs (by simp) (by simp)) ?_
  rintro i ⟨hi, ho⟩
  simp (config := { contextual := true, maxSteps := 2000000 }) (disch := omega) [-Int.not_lt, -Int.not_le, -Nat.not_lt, -Nat.not_le, elemK_get, wrapI, leT, leF, ltT, ltF, leTn, leFn, ltTn, ltFn]
  refine ⟨fun hlt => ?_, fun hge => ?_⟩
  · have h2 : i + 2 < l.length := by omega
    have hd : l.drop i = l[i] :: l[i + 1] :: l[i + 2] :: l.drop (i + 3) := by
      rw [List.drop_eq_getElem_cons (by omega), List.drop_eq_getElem_cons (by omega), List.drop_eq_getElem_cons h2]
    rw [hd, rise, ← List.drop_eq_getElem_cons h2] at ho
    refine callS_go ?_; simp; refine callA_of (value_Compare_spec _ _ (Val.wtL_get hl) (Val.wtL_get hl)) (by simp) ?_
    simp (config := { contextual := true, maxSteps := 2000000 }) (disch := omega) [-Int.not_lt, -Int.not_le, -Nat.not_lt, -Nat.not_le, elemK_get, wrapI, leT, leF, ltT, ltF, leTn, leFn, ltTn, ltFn]
    refine ⟨fun hge => ?_, fun hl => ?_⟩
    · have : ¬ (l[i].cmp l[i + 2] < 0) := by omega
      simp [ho, this]
    · refine .of (i + 2) ⟨by omega, ?_⟩ (by omega) (Wk.subs (by simp) (by simp))
      rw [ho]; simp; intro _; omega
  · have : rise l = true := by
      rw [ho]
      match hm : l.drop i with
      | [] => rfl
      | [_] => rfl
      | [_, _] => rfl
      | _ :: _ :: _ :: _ => have := congrArg List.length hm; simp at this; omega
    simp (config := { contextual := true, maxSteps := 2000000 }) (disch := omega) [-Int.not_lt, -Int.not_le, -Nat.not_lt, -Nat.not_le, elemK_get, wrapI, leT, leF, ltT, ltF, leTn, leFn, ltTn, ltFn, this]
    have e : (l.length : Int) % 2 = ((l.length % 2 : Nat) : Int) := by simp
    by_cases h2 : l.length % 2 = 0
    · simp [h2, e]; omega
    · have : l.length % 2 = 1 := by omega
      simp [e, this]
end Go.Am
end

section
namespace Go.Am
set_option maxRecDepth 100000
attribute [local irreducible] vc vcIs vcI vcOp vcD vcDp vcDR vcT vcAR stepD stepDp panD neG ne pv J callS callN loopS lookK evK evsK nthK objK boxK rowK boolK intK strK aggK fnK ifcK cellsK cellsLK ldK ldaK iaK srcK stK appK appD isnlD pvK callJ callJD callA
theorem vm_sound_spec (v : Val) : v.wt < 2 ^ 40 → Ret prog f_vm_sound [v.V] (vB v.sound) := by
  induction v using Val.induct with
  | h v ih =>
  intro hv
  have hs := v.sizes hv
  have hw := v.wt_eq
  have s1 : ∀ x ∈ v.list, Ret prog f_vm_sound_1 [x.V] (vB (!x.sound)) := fun x hx => by
    refine J_pure fn_vm_sound_1 (by simp) ?_
    simp (config := { contextual := true, maxSteps := 2000000 }) (disch := omega) [-Int.not_lt, -Int.not_le, -Nat.not_lt, -Nat.not_le, elemK_get, wrapI, leT, leF, ltT, ltF, leTn, leFn, ltTn, ltFn, cd_vm_sound_1]
    refine callS_go ?_; simp; refine callA_of (ih x hx (by have := Val.wtL_mem hx; omega)) (by simp) ?_
    simp (config := { contextual := true, maxSteps := 2000000 }) (disch := omega) [-Int.not_lt, -Int.not_le, -Nat.not_lt, -Nat.not_le, elemK_get, wrapI, leT, leF, ltT, ltF, leTn, leFn, ltTn, ltFn]
  have hany : v.list.any (fun x => !x.sound) = !v.list.all Val.sound := by simp [List.all_eq_not_any_not]
  refine J_pure fn_vm_sound (by simp) ?_
  simp (config := { contextual := true, maxSteps := 2000000 }) (disch := omega) [-Int.not_lt, -Int.not_le, -Nat.not_lt, -Nat.not_le, elemK_get, wrapI, leT, leF, ltT, ltF, leTn, leFn, ltTn, ltFn, cd_vm_sound]
  (repeat' (first | apply And.intro | intro _))
  all_goals first | (simp [Val.sound_eq v, *]; done) | (rw [Bool.eq_iff_iff]; simp [Val.sound_eq v, *]; done) | (rw [Bool.eq_iff_iff]; simp [Val.sound_eq v, *]; omega) | skip
  all_goals
    refine callS_go ?_; simp; refine callA_of (ContainsFunc_spec (fun x => !x.sound) f_vm_sound_1 [] v.list rfl (by omega) s1) (by simp) ?_
    rw [hany]
    cases hb : v.list.all Val.sound
    · simp (config := { contextual := true, maxSteps := 2000000 }) (disch := omega) [-Int.not_lt, -Int.not_le, -Nat.not_lt, -Nat.not_le, elemK_get, wrapI, leT, leF, ltT, ltF, leTn, leFn, ltTn, ltFn, *]
      simp [Val.sound_eq v, hb, *]
    · simp (config := { contextual := true, maxSteps := 2000000 }) (disch := omega) [-Int.not_lt, -Int.not_le, -Nat.not_lt, -Nat.not_le, elemK_get, wrapI, leT, leF, ltT, ltF, leTn, leFn, ltTn, ltFn, *]
      (repeat' (first | apply And.intro | intro _))
      all_goals first
        | (simp [Val.sound_eq v, hb, *]; done)
        | (rw [Val.sound_eq v, hb, Bool.eq_iff_iff]; simp [*]; done)
        | (rw [Val.sound_eq v, hb, Bool.eq_iff_iff]; simp [*]; omega)
        | (refine callS_go ?_; simp; refine callA_of (vm_rising_spec v.list (by omega)) (by simp) ?_
           simp (config := { contextual := true, maxSteps := 2000000 }) (disch := omega) [-Int.not_lt, -Int.not_le, -Nat.not_lt, -Nat.not_le, elemK_get, wrapI, leT, leF, ltT, ltF, leTn, leFn, ltTn, ltFn, *]
           simp [Val.sound_eq v, hb, *])
theorem vm_Sound_spec (v : Val) (hv : v.wt < 2 ^ 40) : Ret prog f_vm_Sound [v.V] (vB (decide (v.wt ≤ 16384) && v.sound)) := by
  refine J_pure fn_vm_Sound (by simp) ?_
  simp (config := { contextual := true, maxSteps := 2000000 }) (disch := omega) [-Int.not_lt, -Int.not_le, -Nat.not_lt, -Nat.not_le, elemK_get, wrapI, leT, leF, ltT, ltF, leTn, leFn, ltTn, ltFn, cd_vm_Sound]
  refine callS_go ?_; simp; refine callA_of (value_Weight_spec v (by omega)) (by simp) ?_
  simp (config := { contextual := true, maxSteps := 2000000 }) (disch := omega) [-Int.not_lt, -Int.not_le, -Nat.not_lt, -Nat.not_le, elemK_get, wrapI, leT, leF, ltT, ltF, leTn, leFn, ltTn, ltFn]
  intro h
  refine callS_go ?_; simp; refine callA_of (vm_sound_spec v hv) (by simp) ?_
  simp (config := { contextual := true, maxSteps := 2000000 }) (disch := omega) [-Int.not_lt, -Int.not_le, -Nat.not_lt, -Nat.not_le, elemK_get, wrapI, leT, leF, ltT, ltF, leTn, leFn, ltTn, ltFn]
end Go.Am
end

section
namespace Go.Am
set_option maxRecDepth 100000
attribute [local irreducible] vc vcIs vcI vcOp vcD vcDp vcDR vcT vcAR stepD stepDp panD neG ne pv J callS callN loopS lookK evK evsK nthK objK boxK rowK boolK intK strK aggK fnK ifcK cellsK cellsLK ldK ldaK iaK srcK stK appK appD isnlD pvK callJ callJD callA
theorem vm_all_1_spec (v : Val) (hv : v.wt < 2 ^ 40) : Ret prog f_vm_all_1 [v.V] (vB (!(decide (v.wt ≤ 16384) && v.sound))) := by
  refine J_pure fn_vm_all_1 (by simp) ?_
  simp (config := { contextual := true, maxSteps := 2000000 }) (disch := omega) [-Int.not_lt, -Int.not_le, -Nat.not_lt, -Nat.not_le, elemK_get, wrapI, leT, leF, ltT, ltF, leTn, leFn, ltTn, ltFn, cd_vm_all_1]
  refine callS_go ?_; simp; refine callA_of (vm_Sound_spec v hv) (by simp) ?_
  simp (config := { contextual := true, maxSteps := 2000000 }) (disch := omega) [-Int.not_lt, -Int.not_le, -Nat.not_lt, -Nat.not_le, elemK_get, wrapI, leT, leF, ltT, ltF, leTn, leFn, ltTn, ltFn]
theorem vm_all_spec (l : List Val) (hl : l.length < 2 ^ 40) (h : ∀ x ∈ l, x.wt < 2 ^ 40) : Ret prog f_vm_all [valsV l] (vB (l.all fun v => decide (v.wt ≤ 16384) && v.sound)) := by
  refine J_pure fn_vm_all (by simp) ?_
  simp (config := { contextual := true, maxSteps := 2000000 }) (disch := omega) [-Int.not_lt, -Int.not_le, -Nat.not_lt, -Nat.not_le, elemK_get, wrapI, leT, leF, ltT, ltF, leTn, leFn, ltTn, ltFn, cd_vm_all]
  refine callS_ret (ContainsFunc_spec (fun v => !(decide (v.wt ≤ 16384) && v.sound)) f_vm_all_1 [] l rfl hl fun x hx => vm_all_1_spec x (h x hx)) rfl rfl (by simp) (by simp) (by simp) ?_
  simp (config := { contextual := true, maxSteps := 2000000 }) (disch := omega) [-Int.not_lt, -Int.not_le, -Nat.not_lt, -Nat.not_le, elemK_get, wrapI, leT, leF, ltT, ltF, leTn, leFn, ltTn, ltFn]
  rw [List.any_eq_not_all_not]
  simp
def Val.neg (v : Val) : Val × Int :=
  if v.kind ≠ 1 then (Val.zero, 40) else if v.num = -9223372036854775808 then (Val.zero, 50) else (Val.int (-v.num), 0)
theorem sem_Neg_spec (v : Val) (h1 : -9223372036854775808 ≤ v.num) (h2 : v.num < 9223372036854775808) : Ret prog f_sem_Neg [v.V] (.tup [v.neg.1.V, vI v.neg.2]) := by
  refine J_pure fn_sem_Neg (by simp) ?_
  by_cases hk : v.kind = 1
  · by_cases hn : v.num = -9223372036854775808
    · have hw : IntKind.i64.wrap 9223372036854775808 = -9223372036854775808 := by decide
      simp (config := { contextual := true, maxSteps := 2000000 }) (disch := omega) [-Int.not_lt, -Int.not_le, -Nat.not_lt, -Nat.not_le, elemK_get, wrapI, leT, leF, ltT, ltF, leTn, leFn, ltTn, ltFn, cd_sem_Neg, Val.neg, Val.zero, hk, hn, hw]
    · have hw : IntKind.i64.wrap (-v.num) = -v.num := by rw [wrapI] <;> omega
      by_cases hz : v.num = 0
      · simp (config := { contextual := true, maxSteps := 2000000 }) (disch := omega) [-Int.not_lt, -Int.not_le, -Nat.not_lt, -Nat.not_le, elemK_get, wrapI, leT, leF, ltT, ltF, leTn, leFn, ltTn, ltFn, cd_sem_Neg, Val.neg, Val.zero, hk, hz]
        refine callS_go ?_; simp; refine callA_of (value_Int_spec 0) (by simp) ?_
        simp (config := { contextual := true, maxSteps := 2000000 }) (disch := omega) [-Int.not_lt, -Int.not_le, -Nat.not_lt, -Nat.not_le, elemK_get, wrapI, leT, leF, ltT, ltF, leTn, leFn, ltTn, ltFn]
      · have hne : (v.num = -v.num) = False := by apply eq_false; omega
        simp (config := { contextual := true, maxSteps := 2000000 }) (disch := omega) [-Int.not_lt, -Int.not_le, -Nat.not_lt, -Nat.not_le, elemK_get, wrapI, leT, leF, ltT, ltF, leTn, leFn, ltTn, ltFn, cd_sem_Neg, Val.neg, Val.zero, hk, hn, hw, hne]
        refine callS_go ?_; simp; refine callA_of (value_Int_spec (-v.num)) (by simp) ?_
        simp (config := { contextual := true, maxSteps := 2000000 }) (disch := omega) [-Int.not_lt, -Int.not_le, -Nat.not_lt, -Nat.not_le, elemK_get, wrapI, leT, leF, ltT, ltF, leTn, leFn, ltTn, ltFn]
  · simp (config := { contextual := true, maxSteps := 2000000 }) (disch := omega) [-Int.not_lt, -Int.not_le, -Nat.not_lt, -Nat.not_le, elemK_get, wrapI, leT, leF, ltT, ltF, leTn, leFn, ltTn, ltFn, cd_sem_Neg, Val.neg, Val.zero, hk]
end Go.Am
end

section
namespace Go.Am
set_option maxRecDepth 100000
attribute [local irreducible] vc vcIs vcI vcOp vcD vcDp vcDR vcT vcAR stepD stepDp panD neG ne pv J callS callN loopS lookK evK evsK nthK objK boxK rowK boolK intK strK aggK fnK ifcK cellsK cellsLK ldK ldaK iaK srcK stK appK appD isnlD pvK callJ callJD callA
def fitI (x : Int) : Int × Int := if -9223372036854775808 ≤ x ∧ x < 9223372036854775808 then (x, 0) else (0, 50)
theorem fitI_in {x : Int} (h1 : -9223372036854775808 ≤ x) (h2 : x < 9223372036854775808) : fitI x = (x, 0) := by simp [fitI, h1, h2]
theorem fitI_out {x : Int} (h : x < -9223372036854775808 ∨ 9223372036854775808 ≤ x) : fitI x = (0, 50) := by unfold fitI; rw [if_neg (by omega)]
theorem wrap_hi {x : Int} (h1 : 9223372036854775808 ≤ x) (h2 : x < 18446744073709551616) : IntKind.i64.wrap x = x - 18446744073709551616 := by
  simp only [IntKind.wrap, IntKind.bits, IntKind.signed]; simp; omega
theorem wrap_lo {x : Int} (h1 : -18446744073709551616 ≤ x) (h2 : x < -9223372036854775808) : IntKind.i64.wrap x = x + 18446744073709551616 := by
  simp only [IntKind.wrap, IntKind.bits, IntKind.signed]; simp; omega
theorem sem_arithmetic_add (a b : Int) (a1 : -9223372036854775808 ≤ a) (a2 : a < 9223372036854775808) (b1 : -9223372036854775808 ≤ b) (b2 : b < 9223372036854775808) :
    Ret prog f_sem_arithmetic [vI 9, vI a, vI b] (.tup [vI (fitI (a + b)).1, vI (fitI (a + b)).2]) := by
  refine J_pure fn_sem_arithmetic (by simp) ?_
  by_cases hlo : a + b < -9223372036854775808
  · have hw := wrap_lo (x := a + b) (by omega) hlo
    have c1 : a < a + b + 18446744073709551616 := by omega
    have c2 : ¬ 0 < b := by omega
    rw [fitI_out (by omega)]; simp (config := { contextual := true, maxSteps := 2000000 }) (disch := omega) [-Int.not_lt, -Int.not_le, -Nat.not_lt, -Nat.not_le, elemK_get, wrapI, leT, leF, ltT, ltF, leTn, leFn, ltTn, ltFn, cd_sem_arithmetic, hw, c1, c2]
  · by_cases hhi : 9223372036854775808 ≤ a + b
    · have hw := wrap_hi (x := a + b) hhi (by omega)
      have c1 : ¬ a < a + b - 18446744073709551616 := by omega
      have c2 : 0 < b := by omega
      rw [fitI_out (by omega)]; simp (config := { contextual := true, maxSteps := 2000000 }) (disch := omega) [-Int.not_lt, -Int.not_le, -Nat.not_lt, -Nat.not_le, elemK_get, wrapI, leT, leF, ltT, ltF, leTn, leFn, ltTn, ltFn, cd_sem_arithmetic, hw, c1, c2]
    · have hw : IntKind.i64.wrap (a + b) = a + b := wrapI (by omega) (by omega)
      have c1 : (a < a + b) = (0 < b) := by apply propext; omega
      rw [fitI_in (by omega) (by omega)]; simp (config := { contextual := true, maxSteps := 2000000 }) (disch := omega) [-Int.not_lt, -Int.not_le, -Nat.not_lt, -Nat.not_le, elemK_get, wrapI, leT, leF, ltT, ltF, leTn, leFn, ltTn, ltFn, cd_sem_arithmetic, hw, c1]
theorem sem_arithmetic_sub (a b : Int) (a1 : -9223372036854775808 ≤ a) (a2 : a < 9223372036854775808) (b1 : -9223372036854775808 ≤ b) (b2 : b < 9223372036854775808) :
    Ret prog f_sem_arithmetic [vI 10, vI a, vI b] (.tup [vI (fitI (a - b)).1, vI (fitI (a - b)).2]) := by
  refine J_pure fn_sem_arithmetic (by simp) ?_
  by_cases hlo : a - b < -9223372036854775808
  · have hw := wrap_lo (x := a - b) (by omega) hlo
    have c1 : ¬ a - b + 18446744073709551616 < a := by omega
    have c2 : 0 < b := by omega
    rw [fitI_out (by omega)]; simp (config := { contextual := true, maxSteps := 2000000 }) (disch := omega) [-Int.not_lt, -Int.not_le, -Nat.not_lt, -Nat.not_le, elemK_get, wrapI, leT, leF, ltT, ltF, leTn, leFn, ltTn, ltFn, cd_sem_arithmetic, hw, c1, c2]
  · by_cases hhi : 9223372036854775808 ≤ a - b
    · have hw := wrap_hi (x := a - b) hhi (by omega)
      have c1 : a - b - 18446744073709551616 < a := by omega
      have c2 : ¬ 0 < b := by omega
      rw [fitI_out (by omega)]; simp (config := { contextual := true, maxSteps := 2000000 }) (disch := omega) [-Int.not_lt, -Int.not_le, -Nat.not_lt, -Nat.not_le, elemK_get, wrapI, leT, leF, ltT, ltF, leTn, leFn, ltTn, ltFn, cd_sem_arithmetic, hw, c1, c2]
    · have hw : IntKind.i64.wrap (a - b) = a - b := wrapI (by omega) (by omega)
      have c1 : (a - b < a) = (0 < b) := by apply propext; omega
      rw [fitI_in (by omega) (by omega)]; simp (config := { contextual := true, maxSteps := 2000000 }) (disch := omega) [-Int.not_lt, -Int.not_le, -Nat.not_lt, -Nat.not_le, elemK_get, wrapI, leT, leF, ltT, ltF, leTn, leFn, ltTn, ltFn, cd_sem_arithmetic, hw, c1]
end Go.Am
end

section
namespace Go.Am
set_option maxRecDepth 100000
attribute [local irreducible] vc vcIs vcI vcOp vcD vcDp vcDR vcT vcAR stepD stepDp panD neG ne pv J callS callN loopS lookK evK evsK nthK objK boxK rowK boolK intK strK aggK fnK ifcK cellsK cellsLK ldK ldaK iaK srcK stK appK appD isnlD pvK callJ callJD callA
theorem sem_arithmetic_zero (op a : Int) (ho : op = 12 ∨ op = 13) : Ret prog f_sem_arithmetic [vI op, vI a, vI 0] (.tup [vI 0, vI 51]) := by
  refine J_pure fn_sem_arithmetic (by simp) ?_
  rcases ho with rfl | rfl <;> simp (config := { contextual := true, maxSteps := 2000000 }) (disch := omega) [-Int.not_lt, -Int.not_le, -Nat.not_lt, -Nat.not_le, elemK_get, wrapI, leT, leF, ltT, ltF, leTn, leFn, ltTn, ltFn, cd_sem_arithmetic]
theorem sem_arithmetic_mod (a b : Int) (a1 : -9223372036854775808 ≤ a) (a2 : a < 9223372036854775808) (b1 : -9223372036854775808 ≤ b) (b2 : b < 9223372036854775808) (h : b ≠ 0) :
    Ret prog f_sem_arithmetic [vI 13, vI a, vI b] (.tup [vI (a.tmod b), vI 0]) := by
  refine J_pure fn_sem_arithmetic (by simp) ?_
  by_cases hm : b = -1
  · subst hm; simp (config := { contextual := true, maxSteps := 2000000 }) (disch := omega) [-Int.not_lt, -Int.not_le, -Nat.not_lt, -Nat.not_le, elemK_get, wrapI, leT, leF, ltT, ltF, leTn, leFn, ltTn, ltFn, cd_sem_arithmetic]
  · simp (config := { contextual := true, maxSteps := 2000000 }) (disch := omega) [-Int.not_lt, -Int.not_le, -Nat.not_lt, -Nat.not_le, elemK_get, wrapI, leT, leF, ltT, ltF, leTn, leFn, ltTn, ltFn, cd_sem_arithmetic, h, hm]
theorem tdiv_fits {a b : Int} (a1 : -9223372036854775808 ≤ a) (a2 : a < 9223372036854775808) (h : b ≠ 0) (hm : b ≠ -1) : -9223372036854775808 ≤ a.tdiv b ∧ a.tdiv b < 9223372036854775808 := by
  by_cases h1 : b = 1
  · subst h1; simp; omega
  · have e : (a.tdiv b).natAbs = a.natAbs / b.natAbs := Int.natAbs_tdiv a b
    have hb : 2 ≤ b.natAbs := by omega
    have h2 : a.natAbs / b.natAbs ≤ a.natAbs / 2 := Nat.div_le_div_left hb (by omega)
    rw [← e] at h2
    generalize a.tdiv b = q at h2
    omega
theorem sem_arithmetic_div (a b : Int) (a1 : -9223372036854775808 ≤ a) (a2 : a < 9223372036854775808) (b1 : -9223372036854775808 ≤ b) (b2 : b < 9223372036854775808) (h : b ≠ 0) (hov : ¬ (b = -1 ∧ a = -9223372036854775808)) :
    Ret prog f_sem_arithmetic [vI 12, vI a, vI b] (.tup [vI (a.tdiv b), vI 0]) := by
  refine J_pure fn_sem_arithmetic (by simp) ?_
  by_cases hm : b = -1
  · subst hm
    have hw : IntKind.i64.wrap (-a) = -a := wrapI (by omega) (by omega)
    by_cases hz : a = 0
    · subst hz; simp (config := { contextual := true, maxSteps := 2000000 }) (disch := omega) [-Int.not_lt, -Int.not_le, -Nat.not_lt, -Nat.not_le, elemK_get, wrapI, leT, leF, ltT, ltF, leTn, leFn, ltTn, ltFn, cd_sem_arithmetic]
    · have hne : (a = -a) = False := by apply eq_false; omega
      simp (config := { contextual := true, maxSteps := 2000000 }) (disch := omega) [-Int.not_lt, -Int.not_le, -Nat.not_lt, -Nat.not_le, elemK_get, wrapI, leT, leF, ltT, ltF, leTn, leFn, ltTn, ltFn, cd_sem_arithmetic, hw, hne]
  · simp (config := { contextual := true, maxSteps := 2000000 }) (disch := omega) [-Int.not_lt, -Int.not_le, -Nat.not_lt, -Nat.not_le, elemK_get, wrapI, leT, leF, ltT, ltF, leTn, leFn, ltTn, ltFn, cd_sem_arithmetic, h, hm]
    exact wrapI (tdiv_fits a1 a2 h hm).1 (tdiv_fits a1 a2 h hm).2
end Go.Am
end

section
namespace Go.Am
set_option maxRecDepth 100000
attribute [local irreducible] vc vcIs vcI vcOp vcD vcDp vcDR vcT vcAR stepD stepDp panD neG ne pv J callS callN loopS lookK evK evsK nthK objK boxK rowK boolK intK strK aggK fnK ifcK cellsK cellsLK ldK ldaK iaK srcK stK appK appD isnlD pvK callJ callJD callA
theorem wrap_range (x : Int) : -9223372036854775808 ≤ IntKind.i64.wrap x ∧ IntKind.i64.wrap x < 9223372036854775808 ∧ ∃ k : Int, IntKind.i64.wrap x = x + k * 18446744073709551616 := by
  have h := Int.emod_nonneg x (b := 18446744073709551616) (by omega)
  have h2 := Int.emod_lt_of_pos x (b := 18446744073709551616) (by omega)
  have h3 := Int.emod_add_mul_ediv x 18446744073709551616
  have e : IntKind.i64.wrap x = if 9223372036854775808 ≤ x % 18446744073709551616 then x % 18446744073709551616 - 18446744073709551616 else x % 18446744073709551616 := by
    simp only [IntKind.wrap, IntKind.bits, IntKind.signed]; simp
  rw [e]
  split
  · exact ⟨by omega, by omega, -(x / 18446744073709551616) - 1, by omega⟩
  · exact ⟨by omega, by omega, -(x / 18446744073709551616), by omega⟩
theorem mul_out {a b : Int} (a1 : -9223372036854775808 ≤ a) (a2 : a < 9223372036854775808) (b1 : -9223372036854775808 ≤ b) (b2 : b < 9223372036854775808) (hb : b ≠ 0) (hm : b ≠ -1)
    (ho : IntKind.i64.wrap (a * b) ≠ a * b) : (IntKind.i64.wrap (a * b)).tdiv b ≠ a := by
  intro h
  obtain ⟨h1, h2, k, hk⟩ := wrap_range (a * b)
  generalize IntKind.i64.wrap (a * b) = p at *
  have e := Int.tmod_add_mul_tdiv p b
  have hr := Int.natAbs_tmod p b
  have hlt : p.natAbs % b.natAbs < b.natAbs := Nat.mod_lt _ (by omega)
  rw [h, Int.mul_comm b a] at e
  rw [← hr] at hlt
  generalize p.tmod b = r at *
  generalize a * b = q at *
  omega
theorem sem_arithmetic_mul (a b : Int) (a1 : -9223372036854775808 ≤ a) (a2 : a < 9223372036854775808) (b1 : -9223372036854775808 ≤ b) (b2 : b < 9223372036854775808) :
    Ret prog f_sem_arithmetic [vI 11, vI a, vI b] (.tup [vI (fitI (a * b)).1, vI (fitI (a * b)).2]) := by
  refine J_pure fn_sem_arithmetic (by simp) ?_
  by_cases ha : a = 0
  · subst ha; simp (config := { contextual := true, maxSteps := 2000000 }) (disch := omega) [-Int.not_lt, -Int.not_le, -Nat.not_lt, -Nat.not_le, elemK_get, wrapI, leT, leF, ltT, ltF, leTn, leFn, ltTn, ltFn, cd_sem_arithmetic, fitI]
  by_cases hb : b = 0
  · subst hb; simp (config := { contextual := true, maxSteps := 2000000 }) (disch := omega) [-Int.not_lt, -Int.not_le, -Nat.not_lt, -Nat.not_le, elemK_get, wrapI, leT, leF, ltT, ltF, leTn, leFn, ltTn, ltFn, cd_sem_arithmetic, fitI, ha]
  by_cases hin : -9223372036854775808 ≤ a * b ∧ a * b < 9223372036854775808
  · have hw : IntKind.i64.wrap (a * b) = a * b := wrapI hin.1 hin.2
    have hd : (a * b).tdiv b = a := Int.mul_tdiv_cancel a hb
    have hwa : IntKind.i64.wrap a = a := wrapI a1 a2
    have hs : (a * b < 0) = ¬ ((a < 0) ↔ (b < 0)) := by
      apply propext
      rcases Int.lt_or_gt_of_ne ha with h1 | h1 <;> rcases Int.lt_or_gt_of_ne hb with h2 | h2
      · have := Int.mul_pos_of_neg_of_neg h1 h2; omega
      · have := Int.mul_neg_of_neg_of_pos h1 h2; omega
      · have := Int.mul_neg_of_pos_of_neg h1 h2; omega
      · have := Int.mul_pos h1 h2; omega
    rw [fitI_in hin.1 hin.2]
    simp (config := { contextual := true, maxSteps := 2000000 }) (disch := omega) [-Int.not_lt, -Int.not_le, -Nat.not_lt, -Nat.not_le, elemK_get, wrapI, leT, leF, ltT, ltF, leTn, leFn, ltTn, ltFn, cd_sem_arithmetic, ha, hb, hw, hd, hwa, hs]
  · rw [fitI_out (by omega)]
    by_cases hm : b = -1
    · subst hm
      have : a = -9223372036854775808 := by omega
      subst this
      have hw : IntKind.i64.wrap 9223372036854775808 = -9223372036854775808 := by decide
      simp (config := { contextual := true, maxSteps := 2000000 }) (disch := omega) [-Int.not_lt, -Int.not_le, -Nat.not_lt, -Nat.not_le, elemK_get, wrapI, leT, leF, ltT, ltF, leTn, leFn, ltTn, ltFn, cd_sem_arithmetic, hw]
    · have hr := wrap_range (a * b)
      have ho := mul_out a1 a2 b1 b2 hb hm (fun e => hin (by rw [← e]; exact ⟨hr.1, hr.2.1⟩))
      have hf := tdiv_fits hr.1 hr.2.1 hb hm
      have hw : IntKind.i64.wrap ((IntKind.i64.wrap (a * b)).tdiv b) = (IntKind.i64.wrap (a * b)).tdiv b := wrapI hf.1 hf.2
      simp (config := { contextual := true, maxSteps := 2000000 }) (disch := omega) [-Int.not_lt, -Int.not_le, -Nat.not_lt, -Nat.not_le, elemK_get, wrapI, leT, leF, ltT, ltF, leTn, leFn, ltTn, ltFn, cd_sem_arithmetic, ha, hb, hw, ho]
end Go.Am
end

section
namespace Go.Am
structure Ins where
  op : Int
  a : Int
  deriving Inhabited
def Ins.cells (x : Ins) : List V := [.c (.int .i64 x.op), .c (.int .i64 x.a)]
theorem Ins.cells_eq (x : Ins) : x.cells = [.c (.int .i64 x.op), .c (.int .i64 x.a)] := rfl
theorem Ins.flat (x : Ins) : flatL x.cells = true := by rw [Ins.cells_eq]; rfl
@[simp] theorem Ins.cells_len (x : Ins) : x.cells.length = 2 := by rw [Ins.cells_eq]; rfl
section
variable {x : Ins} {K : V → Prop} {Ks : List V → Prop} {hp : Hp}
@[simp] theorem Ins.nth0 : nthK x.cells 0 K = K (.c (.int .i64 x.op)) := by rw [Ins.cells_eq]; simp
@[simp] theorem Ins.nth1 : nthK x.cells 1 K = K (.c (.int .i64 x.a)) := by rw [Ins.cells_eq]; simp
@[simp] theorem Ins.take1 : x.cells.take 1 = [.c (.int .i64 x.op)] := by rw [Ins.cells_eq]; rfl
@[simp] theorem Ins.drop1 : x.cells.drop 1 = [.c (.int .i64 x.a)] := by rw [Ins.cells_eq]; rfl
@[simp] theorem Ins.take2 : x.cells.take 2 = x.cells := List.take_of_length_le (by simp)
@[simp] theorem Ins.drop2 : x.cells.drop 2 = [] := by rw [Ins.cells_eq]; rfl
@[simp] theorem Ins.has0 {i : Id} : V.hasL i x.cells = false := flat_has x.flat i
@[simp] theorem Ins.hasS0 {ss : List Nat} : V.hasSL ss x.cells = false := flat_hasS x.flat ss
@[simp] theorem Ins.kill0 {i : Id} : x.cells.map (V.kill i) = x.cells := flat_kill x.flat i
@[simp] theorem Ins.scalars0 : scalars x.cells = true := flat_scalars x.flat
@[simp] theorem Ins.pure0 : V.pureL x.cells = true := flat_pure x.flat
@[simp] theorem Ins.view0 : V.viewL hp x.cells Ks = Ks x.cells := flat_view x.flat Ks
@[simp] theorem Ins.see0 {nl : Bool} {ks : List Id} : V.seeL nl ks hp x.cells Ks = Ks x.cells := flat_see x.flat nl ks Ks
@[simp] theorem Ins.map0 {f : Id → Option Id} : mapLK f x.cells Ks = Ks x.cells := flat_map x.flat f Ks
@[simp] theorem Ins.hide0 {ks : List Id} : V.hideL ks x.cells = x.cells := flat_hide x.flat ks
end
@[simp] theorem Ins.cells_ne (x : Ins) : (x.cells = []) = False := by rw [Ins.cells_eq]; simp
@[simp ↓] theorem Ins.head {l : List Ins} : (l.map Ins.cells = [] ∨ ∃ e, (l.map Ins.cells)[0]? = some e ∧ e.length = 2) = True := head_map fun x => x.cells_len
abbrev Ins.V (x : Ins) : V := .agg x.cells
structure Fnc where
  params : Int
  locals : Int
  zero : Int
  stack : Int
  code : List Ins
  deriving Inhabited
def Fnc.cells (x : Fnc) : List V := [.c (.int .i64 x.params), .c (.int .i64 x.locals), .c (.int .i64 x.zero), .c (.int .i64 x.stack), .lst (x.code.map Ins.cells)]
theorem Fnc.cells_eq (x : Fnc) : x.cells = [.c (.int .i64 x.params), .c (.int .i64 x.locals), .c (.int .i64 x.zero), .c (.int .i64 x.stack), .lst (x.code.map Ins.cells)] := rfl
theorem Fnc.flat (x : Fnc) : flatL x.cells = true := by rw [Fnc.cells_eq]; rfl
@[simp] theorem Fnc.cells_len (x : Fnc) : x.cells.length = 5 := by rw [Fnc.cells_eq]; rfl
section
variable {x : Fnc} {K : V → Prop} {Ks : List V → Prop} {hp : Hp}
@[simp] theorem Fnc.nth0 : nthK x.cells 0 K = K (.c (.int .i64 x.params)) := by rw [Fnc.cells_eq]; simp
@[simp] theorem Fnc.nth1 : nthK x.cells 1 K = K (.c (.int .i64 x.locals)) := by rw [Fnc.cells_eq]; simp
@[simp] theorem Fnc.nth2 : nthK x.cells 2 K = K (.c (.int .i64 x.zero)) := by rw [Fnc.cells_eq]; simp
@[simp] theorem Fnc.nth3 : nthK x.cells 3 K = K (.c (.int .i64 x.stack)) := by rw [Fnc.cells_eq]; simp
@[simp] theorem Fnc.nth4 : nthK x.cells 4 K = K (.lst (x.code.map Ins.cells)) := by rw [Fnc.cells_eq]; simp
@[simp] theorem Fnc.take1 : x.cells.take 1 = [.c (.int .i64 x.params)] := by rw [Fnc.cells_eq]; rfl
@[simp] theorem Fnc.drop1 : x.cells.drop 1 = [.c (.int .i64 x.locals), .c (.int .i64 x.zero), .c (.int .i64 x.stack), .lst (x.code.map Ins.cells)] := by rw [Fnc.cells_eq]; rfl
@[simp] theorem Fnc.take2 : x.cells.take 2 = [.c (.int .i64 x.params), .c (.int .i64 x.locals)] := by rw [Fnc.cells_eq]; rfl
@[simp] theorem Fnc.drop2 : x.cells.drop 2 = [.c (.int .i64 x.zero), .c (.int .i64 x.stack), .lst (x.code.map Ins.cells)] := by rw [Fnc.cells_eq]; rfl
@[simp] theorem Fnc.take3 : x.cells.take 3 = [.c (.int .i64 x.params), .c (.int .i64 x.locals), .c (.int .i64 x.zero)] := by rw [Fnc.cells_eq]; rfl
@[simp] theorem Fnc.drop3 : x.cells.drop 3 = [.c (.int .i64 x.stack), .lst (x.code.map Ins.cells)] := by rw [Fnc.cells_eq]; rfl
@[simp] theorem Fnc.take4 : x.cells.take 4 = [.c (.int .i64 x.params), .c (.int .i64 x.locals), .c (.int .i64 x.zero), .c (.int .i64 x.stack)] := by rw [Fnc.cells_eq]; rfl
@[simp] theorem Fnc.drop4 : x.cells.drop 4 = [.lst (x.code.map Ins.cells)] := by rw [Fnc.cells_eq]; rfl
@[simp] theorem Fnc.take5 : x.cells.take 5 = x.cells := List.take_of_length_le (by simp)
@[simp] theorem Fnc.has0 {i : Id} : V.hasL i x.cells = false := flat_has x.flat i
@[simp] theorem Fnc.hasS0 {ss : List Nat} : V.hasSL ss x.cells = false := flat_hasS x.flat ss
@[simp] theorem Fnc.kill0 {i : Id} : x.cells.map (V.kill i) = x.cells := flat_kill x.flat i
@[simp] theorem Fnc.scalars0 : scalars x.cells = true := flat_scalars x.flat
@[simp] theorem Fnc.pure0 : V.pureL x.cells = true := flat_pure x.flat
@[simp] theorem Fnc.view0 : V.viewL hp x.cells Ks = Ks x.cells := flat_view x.flat Ks
@[simp] theorem Fnc.see0 {nl : Bool} {ks : List Id} : V.seeL nl ks hp x.cells Ks = Ks x.cells := flat_see x.flat nl ks Ks
@[simp] theorem Fnc.map0 {f : Id → Option Id} : mapLK f x.cells Ks = Ks x.cells := flat_map x.flat f Ks
@[simp] theorem Fnc.hide0 {ks : List Id} : V.hideL ks x.cells = x.cells := flat_hide x.flat ks
end
@[simp] theorem Fnc.cells_ne (x : Fnc) : (x.cells = []) = False := by rw [Fnc.cells_eq]; simp
@[simp ↓] theorem Fnc.head {l : List Fnc} : (l.map Fnc.cells = [] ∨ ∃ e, (l.map Fnc.cells)[0]? = some e ∧ e.length = 5) = True := head_map fun x => x.cells_len
abbrev Fnc.V (x : Fnc) : V := .agg x.cells
structure Mdl where
  consts : List Val
  funcs : List Fnc
  deriving Inhabited
def Mdl.cells (m : Mdl) : List V := [.lst (m.consts.map Val.cells), .lst (m.funcs.map Fnc.cells)]
abbrev Mdl.V (m : Mdl) : V := .agg [.lst (m.consts.map Val.cells), .lst (m.funcs.map Fnc.cells)]
end Go.Am
end

section
namespace Go.Am
set_option maxRecDepth 100000
attribute [local irreducible] vc vcIs vcI vcOp vcD vcDp vcDR vcT vcAR stepD stepDp panD neG ne pv J callS callN loopS lookK evK evsK nthK objK boxK rowK boolK intK strK aggK fnK ifcK cellsK cellsLK ldK ldaK iaK srcK stK appK appD isnlD pvK callJ callJD callA
def Ins.pushes (i : Ins) : Int := if i.op = 1 ∨ i.op = 2 ∨ i.op = 4 ∨ i.op = 9 ∨ (12 ≤ i.op ∧ i.op ≤ 21) then 1 else 0
def Mdl.pops (m : Mdl) (i : Ins) : Int :=
  if i.op = 3 ∨ i.op = 5 ∨ i.op = 6 ∨ i.op = 8 ∨ i.op = 10 ∨ (13 ≤ i.op ∧ i.op ≤ 16) then 1
  else if i.op = 12 ∨ i.op = 17 ∨ i.op = 18 ∨ i.op = 19 ∨ i.op = 21 then 2
  else if i.op = 20 then 3 else if i.op = 9 then (m.funcs.getD i.a.toNat default).params else 0
theorem code_effect_spec (m : Mdl) (i : Ins) (h : i.op = 9 → 0 ≤ i.a ∧ i.a.toNat < m.funcs.length) : Ret prog f_code_effect [m.V, i.V] (.tup [vI (m.pops i), vI i.pushes]) := by
  refine J_pure fn_code_effect (by simp) ?_
  by_cases h9 : i.op = 9
  · obtain ⟨k1, k2⟩ := h h9
    simp (config := { contextual := true, maxSteps := 2000000 }) (disch := omega) [-Int.not_lt, -Int.not_le, -Nat.not_lt, -Nat.not_le, elemK_get, wrapI, leT, leF, ltT, ltF, leTn, leFn, ltTn, ltFn, cd_code_effect, h9, Mdl.pops, Ins.pushes]
  · simp (config := { contextual := true, maxSteps := 2000000 }) (disch := omega) [-Int.not_lt, -Int.not_le, -Nat.not_lt, -Nat.not_le, elemK_get, wrapI, leT, leF, ltT, ltF, leTn, leFn, ltTn, ltFn, cd_code_effect, h9]
    (repeat' (first | apply And.intro | intro _))
    all_goals first
      | (unfold Mdl.pops; (repeat' split) <;> omega)
      | (unfold Ins.pushes; split <;> omega)
end Go.Am
end

section
namespace Go.Am
set_option maxRecDepth 100000
attribute [local irreducible] vc vcIs vcI vcOp vcD vcDp vcDR vcT vcAR stepD stepDp panD neG ne pv J callS callN loopS lookK evK evsK nthK objK boxK rowK boolK intK strK aggK fnK ifcK cellsK cellsLK ldK ldaK iaK srcK stK appK appD isnlD pvK callJ callJD callA
def Mdl.most (m : Mdl) (states n : Int) (f : Fnc) (op : Int) : Int × Int :=
  if op = 1 then (0, m.consts.length) else if op = 2 ∨ op = 3 then (0, f.locals) else if op = 4 ∨ op = 5 then (0, states)
  else if op = 7 ∨ op = 8 then (0, f.code.length) else if op = 9 then (0, n) else if op = 11 then (0, 1099511627777) else if op = 12 then (3, 14) else (0, 1)
def Mdl.insOk (m : Mdl) (states n : Int) (f : Fnc) (i : Ins) : Bool :=
  decide (1 ≤ i.op) && decide (i.op ≤ 21) && decide ((m.most states n f i.op).1 ≤ i.a) && decide (i.a < (m.most states n f i.op).2)
end Go.Am
end

section
namespace Go.Am
variable {P : Program} {n : Nat} {H : Imm} {μ : Mu} {env : Env} {hp : Hp} {a : Act} {w : World}
theorem fin_ret {m : Sz} {fn : Func} {rs : List IOp} {k : Nat} {Q : Res → Prop} {H0 : Imm} {μ0 : Mu} {hp0 : Hp} {w0 : World} (k6 : rcompL P fn.results.toList = some rs) (hS : Sat m H μ env hp a w)
    (hN : Nj H0 μ0 hp0 w0 H μ hp w) (hext : ∀ j, j < k → μ (.e j) = μ0 (.e j)) (h : retX k rs Q .ret env hp) :
    ∃ x, (results fn a.tmps).run P w = .ok x w ∧ ∃ r H' μ', Q r ∧ JP H0 μ0 k hp0 w0 r (.returned x) H' μ' w := by
  obtain ⟨outs, e0, q1⟩ := h
  obtain ⟨v, x, e1, e2, e3⟩ := results_ok (K := fun v => outV hp (esL 0 k ++ outs) v fun u obs => Q (.ret u obs)) k6 hS q1
  refine ⟨x, e3, ?_⟩
  obtain ⟨u, obs', H1, m1, m2, m3, m4, m5, m6⟩ := outV_ok hS.wd e2 e0 e1
  refine ⟨_, H1, _, m1, ⟨x, rfl, m2⟩, hN.trans m5, m4, by rw [m6]; simp [esL_len], fun j o hj ho hg => ?_⟩
  simp only [muE]
  rw [List.getElem?_append_left (by rw [esL_len]; exact hj), esL_get hj, Nat.zero_add]
  exact hext j hj
theorem fin_pan {rs : List IOp} {k : Nat} {Q : Res → Prop} {H0 : Imm} {μ0 : Mu} {hp0 : Hp} {w0 : World} {v : V} {x : Value} (hr : R H μ v x) (hW : Wd H μ hp w)
    (hN : Nj H0 μ0 hp0 w0 H μ hp w) (hext : ∀ j, j < k → μ (.e j) = μ0 (.e j)) (h : retX k rs Q (.pan v) env hp) :
    ∃ r H' μ', Q r ∧ JP H0 μ0 k hp0 w0 r (.panicked [{ v := x, recovered := false }]) H' μ' w := by
  obtain ⟨u, obs', H1, m1, m2, m3, m4, m5, m6⟩ := outV_ok hW hr (esL_nodup 0 _) h
  refine ⟨_, H1, _, m1, ⟨x, rfl, m2⟩, hN.trans m5, m4, by rw [m6, esL_len], fun j o hj ho hg => ?_⟩
  simp only [muE]
  rw [esL_get hj, Nat.zero_add]
  exact hext j hj
theorem end_wp {fn : Func} {c : Code} {cd : Cd} {rs : List IOp} {k : Nat} {Q : Res → Prop} (k5 : CompA P n c cd) (k6 : rcompL P fn.results.toList = some rs) (hS : Sat ⟨n, []⟩ H μ env hp a w)
    (h : vc P cd env hp (wkQ (retX k rs Q))) : c.wp P (bodyPost P fn fun e w' => ∃ r H' μ', Q r ∧ JP H μ k hp w r e H' μ' w') a w := by
  refine wp_mono (vc_okA (n := ⟨n, []⟩) k5 h H μ a w hS) fun e a' w' hpo => ?_
  obtain ⟨ex, env', hp', H', μ', q1, q2, q3, q4⟩ := hpo
  have hret : ∀ {q : ex = .normal ∨ ex = .ret}, ∃ v, (results fn a'.tmps).run P w' = .ok v w' ∧ ∃ r H'' μ'', Q r ∧ JP H μ k hp w r (.returned v) H'' μ'' w' := by
    intro q
    have q1' : ∃ E h, Wk E h env' hp' ∧ (retX k rs Q .ret E h) := by
      rcases q with rfl | rfl
      · obtain ⟨E, h, r1, r2⟩ := q1; exact ⟨E, h, r1, r2⟩
      · exact q1
    obtain ⟨E, hE, hwk, q1⟩ := q1'
    obtain ⟨μ2, r1, r2⟩ := hwk ⟨n, []⟩ H' μ' a' w' q4
    exact fin_ret k6 r1 (q3.trans r2).toNj (fun j _ => (q3.trans r2).ext j) q1
  cases ex with
  | normal => cases e <;> simp only [Ex.ok] at q2; exact ⟨q4.defers, hret (q := .inl rfl)⟩
  | ret => cases e <;> simp only [Ex.ok] at q2; exact ⟨q4.defers, hret (q := .inr rfl)⟩
  | exit i => exact q1.elim
  | pan v =>
    cases e <;> simp only [Ex.ok] at q2
    obtain ⟨x, rfl, hx⟩ := q2
    exact ⟨q4.defers, fin_pan (env := env') (rs := rs) hx q4.wd q3.toNj (fun j _ => q3.ext j) q1⟩
def recMode : FrameMode → FrameMode
  | .panicking ({ v, recovered := false, goexit := false } :: older) => .panicking ({ v, recovered := true } :: older)
  | m => m
def PanOf (H : Imm) (pv : Option V) (u : FrameMode) : Prop :=
  match pv with
  | none => u = .returning
  | some p => ∃ x, u = .panicking [{ v := x, recovered := false }] ∧ R H Mu.bot p x
def modeAfter (rec : Bool) (u : FrameMode) : FrameMode := if rec then recMode u else u
def JD (P : Program) (rec : Bool) (f : FuncId) (args : List V) (obs : List Ob) (pv : Option V) (Q : Res → Prop) : Prop :=
  ∀ H μ vs w u, RL H μ args vs → Wd H μ (hpE 0 obs) w → PanOf H pv u → (callFunc f vs).run P w = .ok (.enter f vs) w ∧
    CallsD P f vs u w fun e u' w' => u' = modeAfter rec u ∧ ∃ r H' μ', Q r ∧ JP H μ obs.length (hpE 0 obs) w r e H' μ' w'
theorem sat_start {args : List V} {vs : Array Value} (hlen : args.length ≤ n) (hargs : RL H μ args vs) (hW : Wd H μ hp w) : Sat ⟨n, []⟩ H μ (envOfArgs 0 args) hp { tmps := vs ++ Array.replicate (n - vs.size) undef, defers := [] } w := by
  have hsz : vs.size = args.length := hargs.1
  refine ⟨rfl, by simp [hsz]; omega, fun s v hs => ?_, hW⟩
  obtain ⟨j, e, hj⟩ := envOfArgs_lookup hs
  rw [Nat.zero_add] at e; subst e
  have hlt : s < vs.size := by rw [hsz]; exact (List.getElem?_eq_some_iff.1 hj).1
  have := hargs.2 s v hj
  rw [Array.getD_eq_getD_getElem?] at this ⊢
  rw [Array.getElem?_append_left hlt]; exact this
def pvV : Option V → V
  | none => .c .nilIface
  | some p => p
theorem JR_of {f : FuncId} {s : Nat} {cd : Cd} {rs : List IOp} {args : List V} {obs : List Ob} {pv : Option V} {Q : Res → Prop} (hf : FnR P f n s cd rs) (hlen : args.length ≤ n) (hp : ∀ p, pv = some p → p.pure = true)
    (h : vc P cd ((envOfArgs 0 args).put (some s) (pvV pv)) (hpE 0 obs) (wkQ (retX obs.length rs Q))) : JD P true f args obs pv Q := by
  intro H μ vs w u h1 h2 h3
  obtain ⟨fn, c, id, o, cal, k1, k2, k3, c1, c2, c3, c4, c5, c6, k4, k5, k6⟩ := hf.ex
  have k2' : ¬ fn.name = "runtime.NumGoroutine" := by simpa using k2
  refine ⟨by simp [callFunc, k1, k2', k3], ?_⟩
  have hS := sat_start (w := w) (hp := hpE 0 obs) hlen h1 h2
  refine callsD_of_wpS k1 k3 fun c₀ cs hu => wpS_seq (wpS_region ?_)
  rw [k4]
  generalize ha : ({ tmps := vs ++ Array.replicate (n - vs.size) undef, defers := [] } : Act) = a at hS
  have hrun : (execOp a.eval o).run P w = .ok .recover w := by
    obtain ⟨cc, ca, ct⟩ := cal
    simp only at c2 c3
    subst c2; subst c3
    simp [execOp, c1, resolve, invoke, builtin]
  have hwant : Region.wanted o (yielded #[o] a.tmps) = true := by simp [Region.wanted, c5]
  have hgo : ∀ x u', (∀ μ, R H μ (pvV pv) x) → u' = modeAfter true u → c.wpS P (bodyPostS P fn c₀ cs fun e u' w' => u' = modeAfter true u ∧ ∃ r H' μ', Q r ∧ JP H μ obs.length (hpE 0 obs) w r e H' μ' w') (a.put o.dst x) ({ c₀ with mode := u' } :: cs) w := by
    intro x u' hx hu'
    refine wpS_of_wp (wp_mono (end_wp (n := n) (.of k5) k6 (a := a.put o.dst x) (by rw [c4]; exact hS.put (fun t e => by injection e with e; subst e; exact c6) (hx μ)) h) fun e a' w' hq => ?_)
    cases e with
    | normal => exact ⟨hq.1, u', rfl, by obtain ⟨v, q1, q2⟩ := hq.2; exact ⟨v, q1, hu', q2⟩⟩
    | ret => exact ⟨hq.1, u', rfl, by obtain ⟨v, q1, q2⟩ := hq.2; exact ⟨v, q1, hu', q2⟩⟩
    | panic ch => exact ⟨hq.1, u', rfl, hu', hq.2⟩
    | outgrown => exact ⟨modeAfter true u, rfl, hq⟩
    | exit i => exact hq.elim
    | goto l => exact hq.elim
  show wpOpsS P #[o] _ [0] a (c₀ :: cs) w
  simp only [wpOpsS, List.getElem?_toArray, List.getElem?_cons_zero, hwant, if_true, hrun]
  cases pv with
  | none =>
    have hu2 : u = .returning := h3
    subst hu2
    have : recoverD (c₀ :: cs) = none := by simp [recoverD, hu]
    simp only [this]
    have := hgo .nilIface .returning (fun μ => .c _) rfl
    have hc : ({ c₀ with mode := .returning } : Frame) = c₀ := by rw [← hu]
    rw [hc] at this
    exact this
  | some p =>
    obtain ⟨x, hx1, hx2⟩ := h3
    subst hx1
    have : recoverD (c₀ :: cs) = some (x, { c₀ with mode := .panicking [{ v := x, recovered := true }] } :: cs) := by simp [recoverD, hu]
    simp only [this]
    exact hgo x _ (fun μ => hx2.pure (hp p rfl) μ) rfl
end Go.Am
end

section
namespace Go.Am
variable {P : Program} {n : Nat} {H : Imm} {μ : Mu} {env : Env} {hp : Hp} {a : Act} {w : World}
def dCall (P : Program) (rec : Bool) (g : FuncId) (cs : List V) (pv : Option V) (env : Env) (hp : Hp) (K : Env → Hp → Prop) : Prop :=
  ∃ ids : List Id, ids.Nodup ∧ V.seeL false ids (Hp.frz (.tup (V.hideL ids (cs ++ boxes hp ids))) hp) cs fun us => ∃ args, V.mapIdL (toE ids 0) us = some args ∧
    handV ids (Hp.frz (.tup (V.hideL ids (cs ++ boxes hp ids))) hp) ids fun obs => JD P rec g args obs pv fun r => match r with
      | .ret v obs' => obs'.length ≤ ids.length ∧ backV env (Hp.frz (.tup (V.hideL ids (cs ++ boxes hp ids))) hp) ids 0 v obs' fun _ env' hp' => K env' hp'
      | .pan _ _ => False
theorem dCall_ok {m : Sz} {rec : Bool} {g : FuncId} {cs : List V} {pv : Option V} {K : Env → Hp → Prop} {vals : Array Value} {u : FrameMode} (hS : Sat m H μ env hp a w) (hcs : RL H μ cs vals) (hu : PanOf H pv u)
    (h : dCall P rec g cs pv env hp K) : (callFunc g vals).run P w = .ok (.enter g vals) w ∧
      CallsD P g vals u w fun e u' w' => u' = modeAfter rec u ∧ ∃ v, e = .returned v ∧ ∃ env' hp' H' μ', K env' hp' ∧ Sat m H' μ' env' hp' a w' ∧ Nx H μ hp w H' μ' hp' w' := by
  obtain ⟨ids, hnd, h⟩ := h
  obtain ⟨H1, hle, hS1, hx1⟩ := hS.frz (.tup (V.hideL ids (cs ++ boxes hp ids)))
  obtain ⟨us, ⟨args, hm, hh⟩, hlen, hr⟩ := seeL_ok hS1.wd (cs := cs) (vals := vals) (off := 0) (by rw [hcs.1]; omega)
    (fun j v hj => by rw [Nat.zero_add]; exact (hcs.2 j v hj).le hle) h
  obtain ⟨obs, hJ, hol, hob⟩ := handV_ok hS1.wd hh
  obtain ⟨hWc, hown⟩ := Handed.wd (ids := ids) (obs := obs) ⟨by omega, hob⟩ hS1.wd hnd
  obtain ⟨m1, m2⟩ := mapIdL_get hm
  have hRL : RL H1 (muE ids μ) args vals := ⟨by rw [hcs.1, m1, hlen], fun j u hj => by
    obtain ⟨v, q1, q2⟩ := m2 j u hj
    have := hr j v q1
    rw [Nat.zero_add] at this
    exact this.mapId (fun i i' h => muE_toE h) q2⟩
  have hu1 : PanOf H1 pv u := by
    cases pv with
    | none => exact hu
    | some p => obtain ⟨x, e1, e2⟩ := hu; exact ⟨x, e1, e2.le hle⟩
  obtain ⟨r1, r2⟩ := hJ H1 (muE ids μ) vals w u hRL hWc hu1
  refine ⟨r1, r2.mono fun e u' w' ⟨hu', r, H', μ', hq, hjp⟩ => ⟨hu', ?_⟩⟩
  cases r with
  | ret v obs' =>
    obtain ⟨⟨x, rfl, hx⟩, q2, q3, q4, q5⟩ := hjp
    obtain ⟨hl, hq⟩ := hq
    rw [hol] at q4 q5
    obtain ⟨v', env', hp', μ2, p1, p2, p3, p4, p5⟩ := Sat.join hS1 hnd hown q2 q3 q4 q5 hx hq
    exact ⟨x, rfl, env', hp', H', μ2, p1, p3, hx1.trans p4⟩
  | pan v obs' => exact hq.elim
def WkE (k : Nat) (E : Env) (h : Hp) (cs' : List V) (env : Env) (hp : Hp) (cs : List V) : Prop :=
  ∀ (n : Sz) H μ a w (vals : Array Value), Sat n H μ env hp a w → RL H μ cs vals → ∃ μ', Sat n H μ' E h a w ∧ Nj H μ hp w H μ' h w ∧ (∀ j, j < k → μ' (.e j) = μ (.e j)) ∧ RL H μ' cs' vals
theorem WkE.refl {k : Nat} {cs : List V} : WkE k env hp cs env hp cs := fun n H μ a w vals hS hv => ⟨μ, hS, (Nx.refl H μ hp w).toNj, fun _ _ => rfl, hv⟩
theorem WkE.trans {k : Nat} {E1 E2 : Env} {h1 h2 : Hp} {cs cs1 cs2 : List V} (g1 : WkE k E1 h1 cs1 env hp cs) (g2 : WkE k E2 h2 cs2 E1 h1 cs1) : WkE k E2 h2 cs2 env hp cs := fun n H μ a w vals hS hv => by
  obtain ⟨μ1, q1, q2, q3, q4⟩ := g1 n H μ a w vals hS hv
  obtain ⟨μ2, r1, r2, r3, r4⟩ := g2 n H μ1 a w vals q1 q4
  exact ⟨μ2, r1, q2.trans r2, fun j hj => (r3 j hj).trans (q3 j hj), r4⟩
theorem WkE.ren {k : Nat} {E : Env} {h : Hp} {cs cs' : List V} (i : Id) (j : Nat) (hk : k ≤ j) (hij : i ≠ .e j) (hE : ∀ p ∈ E, lookK env p.1 fun v => mapK (renF i (.e j)) v (· = p.2))
    (hh : ∀ p ∈ h, p.1 ≠ i ∧ objK hp (unren i (.e j) p.1) fun o => mapOK (renF i (.e j)) o (· = p.2)) (hc : mapLK (renF i (.e j)) cs (· = cs')) : WkE k E h cs' env hp cs := fun n H μ a w vals hS hv => by
  let μ' : Mu := fun x => if x = .e j then μ i else μ x
  have hμ : ∀ x x', renF i (.e j) x = some x' → μ' x' = μ x := by
    intro x x' hx
    unfold renF at hx
    by_cases h1 : x = i
    · subst h1; rw [if_pos rfl] at hx; injection hx with hx; subst hx; simp [μ']
    · rw [if_neg h1] at hx
      by_cases h2 : x = .e j
      · rw [if_pos h2] at hx; cases hx
      · rw [if_neg h2] at hx; injection hx with hx; subst hx; simp [μ', h2]
  have hun : ∀ x, x ≠ i → renF i (.e j) (unren i (.e j) x) = some x := by
    intro x hx
    unfold renF unren
    by_cases h1 : x = .e j
    · subst h1; simp
    · simp [h1, hx]
  have hob : ∀ x o, h.lookup x = some o → x ≠ i ∧ ∃ o', hp.lookup (unren i (.e j) x) = some o' ∧ o'.mapId (renF i (.e j)) = some o := by
    intro x o hl
    obtain ⟨h1, h2⟩ := hh (x, o) (lookup_mem0 hl)
    rw [objK_eq] at h2
    obtain ⟨o', h3, q, h4, rfl⟩ := h2
    exact ⟨h1, o', h3, h4⟩
  have hW := hS.wd
  refine ⟨μ', ⟨hS.defers, hS.size, fun s v hs => ?_, ⟨fun x o hl => ?_, fun x y ox oy bx by' hx hox hy hoy hbx hby heq => ?_, hW.imm, hW.glo⟩⟩, ⟨Imm.le_refl H, rfl, rfl, rfl, Nat.le_refl _, fun _ _ _ => rfl, fun b hO hb => ?_, fr0⟩, fun q hq => ?_, ?_⟩
  · have h1 := hE (s, v) (lookup_mem0 hs)
    rw [lookK_eq] at h1
    obtain ⟨u, h2, q, h3, rfl⟩ := h1
    exact R.mapId hμ (hS.env s u h2) h3
  · obtain ⟨h1, o', h2, h3⟩ := hob x o hl
    exact ObOk.mapId hμ (hμ _ _ (hun x h1)) (hW.ob _ o' h2) h3
  · obtain ⟨h1, o1, h2, h3⟩ := hob x ox hx
    obtain ⟨k1, o2, k2, k3⟩ := hob y oy hy
    have e1 := hμ _ _ (hun x h1)
    have e2 := hμ _ _ (hun y k1)
    have := hW.inj _ _ o1 o2 bx by' h2 (by rw [← Ob.mapId_own h3]; exact hox) k2 (by rw [← Ob.mapId_own k3]; exact hoy) (by rw [← e1]; exact hbx) (by rw [← e2]; exact hby) heq
    have r1 := hun x h1
    rw [this, hun y k1] at r1
    injection r1 with r1; exact r1.symm
  · obtain ⟨x, o, blk, h1, h2, h3, h4⟩ := hO
    obtain ⟨q1, o1, q2, q3⟩ := hob x o h1
    exact ⟨_, o1, blk, q2, by rw [← Ob.mapId_own q3]; exact h2, by rw [← hμ _ _ (hun x q1)]; exact h3, h4⟩
  · have : q ≠ j := by omega
    simp [μ', this]
  · obtain ⟨us, hc, rfl⟩ := hc
    obtain ⟨m1, m2⟩ := mapIdL_get hc
    refine ⟨by rw [hv.1, m1], fun q v hq => ?_⟩
    obtain ⟨u, q1, q2⟩ := m2 q v hq
    exact R.mapId hμ (hv.2 q u q1) q2
def vcF (P : Program) (k : Nat) : FCd → Env → Hp → Qs → (FuncId → List V → Qs) → Prop
  | .seq c f, env, hp, Q, QD => vc P c env hp (thenQ (fun e h => vcF P k f e h Q QD) Q)
  | .dfr is t args c, env, hp, Q, QD => vcIs P env hp is (fun e h => ∃ g caps vs, Env.ev e t = some (.fn g caps) ∧ args.mapM (Env.ev e) = some vs ∧ ∃ E h' cs', WkE k E h' cs' e h (vs ++ caps) ∧ V.allEL cs' = true ∧ vc P c E h' (QD g cs')) fun v h => Q (.pan v) [] h
def PostF (n k : Nat) (H : Imm) (μ : Mu) (hp : Hp) (w : World) (Q : Qs) (QD : FuncId → List V → Qs) : Exit → Act → World → Prop := fun e a' w' =>
  Post ⟨n, []⟩ H μ hp w Q e a' w' ∨ ∃ g cv dargs cs ex env' hp' H' μ', (RL H' μ' cs (dargs ++ cv) ∧ V.allEL cs = true) ∧ QD g cs ex env' hp' ∧ ex.ok H' μ' e ∧ Nj H μ hp w H' μ' hp' w' ∧ (∀ j, j < k → μ' (.e j) = μ (.e j)) ∧
    Sat ⟨n, [{ target := .fn (.func g) cv, args := dargs }]⟩ H' μ' env' hp' a' w'
theorem PostF.trans {k : Nat} {H1 : Imm} {μ1 : Mu} {hp1 : Hp} {w1 : World} {Q : Qs} {QD : FuncId → List V → Qs} {e : Exit} {a' : Act} {w' : World} (h : Nx H μ hp w H1 μ1 hp1 w1) (q : PostF n k H1 μ1 hp1 w1 Q QD e a' w') : PostF n k H μ hp w Q QD e a' w' := by
  rcases q with q | ⟨g, cv, dargs, cs, ex, env', hp', H', μ', q1, q2, q3, q4, q5, q6⟩
  · exact .inl (Post.trans h q)
  · exact .inr ⟨g, cv, dargs, cs, ex, env', hp', H', μ', q1, q2, q3, h.toNj.trans q4, fun j hj => (q5 j hj).trans (h.ext j), q6⟩
theorem wpOps_textK {nz : Sz} {rest : List Nat} {ops : Array Oper} {Kp : V → Hp → Prop} {K : Env → Hp → Prop} : ∀ (m j : Nat) (is : List I) (env : Env) (hp : Hp), is.length = m →
    (∀ (k : Nat) (i : I), is[k]? = some i → ∃ o, ops[j + k]? = some o ∧ compI P nz ops o = some i) → vcIs P env hp is K Kp →
    ∀ H μ a w (Q : Exit → Act → World → Prop), Sat nz H μ env hp a w →
      (∀ v x hp' H' μ' a' w', Kp v hp' → R H' μ' v x → Nx H μ hp w H' μ' hp' w' → Wd H' μ' hp' w' → a'.defers = nz.ds → a'.tmps.size = nz.n → Q (.panic [{ v := x, recovered := false }]) a' w') →
      (∀ env' hp' H' μ' a' w', K env' hp' → Sat nz H' μ' env' hp' a' w' → Nx H μ hp w H' μ' hp' w' → wpOps P ops Q rest a' w') →
      wpOps P ops Q (List.range' j m ++ rest) a w := by
  intro m
  induction m with
  | zero =>
    intro j is env hp hl hget h H μ a w Q hS hQp hQ
    have : is = [] := List.eq_nil_of_length_eq_zero hl
    subst this
    exact hQ env hp H μ a w h hS (Nx.refl H μ hp w)
  | succ m ih =>
    intro j is env hp hl hget h H μ a w Q hS hQp hQ
    cases is with
    | nil => simp at hl
    | cons i is =>
      simp only [vcIs] at h
      obtain ⟨o, ho, hc⟩ := hget 0 i rfl
      rw [Nat.add_zero] at ho
      rw [List.range'_succ, List.cons_append, wpOps_cons]
      refine wpOp_mono (fun a' w' ⟨env', hp', H', μ', h1, h2, h3, hk⟩ => ?_) (vcI_ok ho hc h H μ a w Q hS fun v x hp' H' μ' w' k1 k2 k3 k4 => hQp v x hp' H' μ' a w' k1 k2 k3 k4 hS.defers hS.size)
      exact ih (j + 1) is env' hp' (by simpa using hl) (fun k i' hk => by
        have := hget (k + 1) i' (by simpa using hk)
        rwa [show j + (k + 1) = j + 1 + k by omega] at this) h1 H' μ' a' w' Q h2
        (fun v x hp'' H'' μ'' a'' w'' k1 k2 k3 k4 k5 k6 => hQp v x hp'' H'' μ'' a'' w'' k1 k2 (h3.trans k3) k4 k5 k6)
        (fun env'' hp'' H'' μ'' a'' w'' k1 k2 k3 => hQ env'' hp'' H'' μ'' a'' w'' k1 k2 (h3.trans k3))
theorem lastDfr_spec {ops : Array Oper} {t : Operand} {args : List Operand} (h : lastDfr ops = some (t, args)) : ∃ o at1, ops.toList = ops.toList.dropLast ++ [o] ∧ o.op = .defer ⟨.value t, args.toArray, at1⟩ ∧ o.dst = none ∧ o.guard = none := by
  unfold lastDfr at h
  split at h
  · rename_i o ho
    split at h
    · rename_i t' args' at1 h1 h2 h3
      simp only [Option.some.injEq, Prod.mk.injEq] at h
      obtain ⟨rfl, rfl⟩ := h
      exact ⟨o, at1, by obtain ⟨ys, e⟩ := List.getLast?_eq_some_iff.1 ho; rw [e]; simp, by simpa using h1, h2, h3⟩
    · cases h
  · cases h
theorem vcF_ok {k : Nat} : ∀ {c : Code} {fc : FCd}, fcomp P n c = some fc → ∀ {env : Env} {hp : Hp} {Q : Qs} {QD : FuncId → List V → Qs}, vcF P k fc env hp Q QD →
    ∀ H μ a w, Sat ⟨n, []⟩ H μ env hp a w → c.wp P (PostF n k H μ hp w Q QD) a w := by
  intro c
  induction c with
  | seq x y ihx ihy =>
    have plain : ∀ {cx : Cd} {fy : FCd}, ccomp P n x = some cx → fcomp P n y = some fy → ∀ {env : Env} {hp : Hp} {Q : Qs} {QD : FuncId → List V → Qs}, vcF P k (.seq cx fy) env hp Q QD →
        ∀ H μ a w, Sat ⟨n, []⟩ H μ env hp a w → (Code.seq x y).wp P (PostF n k H μ hp w Q QD) a w := by
      intro cx fy hx hy env hp Q QD h H μ a w hS
      refine wp_seq (wp_mono (vc_ok (n := ⟨n, []⟩) hx h H μ a w hS) fun e a' w' hpo => ?_)
      obtain ⟨ex, env', hp', H', μ', q1, q2, q3, q4⟩ := hpo
      cases ex with
      | normal =>
        have : e = .normal := (ok_normal q2).2 rfl
        subst this
        exact wp_mono (ihy hy q1 H' μ' a' w' q4) fun e a'' w'' hh => hh.trans q3
      | exit i => cases e <;> simp only [Ex.ok] at q2; exact .inl ⟨.exit i, env', hp', H', μ', q1, q2, q3, q4⟩
      | ret => cases e <;> simp only [Ex.ok] at q2; exact .inl ⟨.ret, env', hp', H', μ', q1, trivial, q3, q4⟩
      | pan v => cases e <;> simp only [Ex.ok] at q2; exact .inl ⟨.pan v, env', hp', H', μ', q1, q2, q3, q4⟩
    intro fc hc env hp Q QD h H μ a w hS
    unfold fcomp at hc
    split at hc
    · rename_i id ops y' heq
      injection heq with e1 e2
      subst e1; subst e2
      split at hc
      · rename_i t args hl
        split at hc
        · rename_i is cy hi hy
          simp only [Option.some.injEq] at hc; subst hc
          obtain ⟨o, at1, l1, l2, l3, l4⟩ := lastDfr_spec hl
          obtain ⟨r1, r2⟩ := compR_get (n := ⟨n, []⟩) hi
          have hsz : ops.size = is.length + 1 := by
            have := congrArg List.length l1
            rw [r1]; simpa using this
          have hlast : ops[is.length]? = some o := by
            have : ops.toList[is.length]? = some o := by rw [l1, r1]; simp
            simpa using this
          refine wp_seq (wp_region ?_)
          rw [List.range_eq_range', hsz, List.range'_1_concat, Nat.zero_add]
          refine wpOps_textK (nz := ⟨n, []⟩) is.length 0 is env hp rfl (fun k i hk => ?_) h H μ a w _ hS (fun v x hp' H' μ' a' w' k1 k2 k3 k4 k5 k6 => ?_) (fun env' hp' H' μ' a' w' k1 k2 k3 => ?_)
          · have hk' : k < ops.toList.dropLast.length := by rw [← r1]; exact (List.getElem?_eq_some_iff.1 hk).1
            obtain ⟨i', h1, h2⟩ := r2 k ops.toList.dropLast[k] (List.getElem?_eq_getElem hk')
            rw [hk] at h1; injection h1 with h1; subst h1
            refine ⟨_, ?_, h2⟩
            rw [Nat.zero_add]
            have : ops.toList[k]? = some ops.toList.dropLast[k] := by
              conv => lhs; rw [l1]
              rw [List.getElem?_append_left hk', List.getElem?_eq_getElem hk']
            simp
          · exact .inl ⟨.pan v, [], hp', H', μ', k1, ⟨x, rfl, k2⟩, k3, Sat.bare k5 k6 k4⟩
          · obtain ⟨g, caps, vs, g1, g2, E, h', cs', g3, g4, g5⟩ := k1
            obtain ⟨cv, ef, hcv⟩ := ev_callee (ev_ok k2 g1)
            have hargs := mapM_ev (rho k2) args vs g2
            have hall := hargs.append hcv
            obtain ⟨μ2, s1, s2, s3, s4⟩ := g3 _ H' μ' a' w' _ k2 hall
            rw [wpOps_cons]
            unfold wpOp
            simp only [hlast]
            have hw : Region.wanted o (yielded ops a'.tmps) = true := by simp [Region.wanted, l4]
            rw [if_pos hw]
            refine .inl ?_
            unfold Oper.wp
            have hrun : (execOp a'.eval o).run P w' = .ok (.defer { target := .fn (.func g) cv, args := args.toArray.map a'.eval }) w' := by
              simp [execOp, l2, resolve, ef, Deferred.ofValue]
            rw [hrun]
            simp only [Oper.upon, l3]
            show (Code.wp P _ _ _ _)
            have hd : a'.defers = [] := k2.defers
            have hS2 : Sat ⟨n, [{ target := .fn (.func g) cv, args := args.toArray.map a'.eval }]⟩ H' μ2 E h' { a' with defers := { target := .fn (.func g) cv, args := args.toArray.map a'.eval } :: a'.defers } w' :=
              ⟨by simp [hd], s1.size, s1.env, s1.wd⟩
            refine wp_mono (vc_ok (n := ⟨n, [{ target := .fn (.func g) cv, args := args.toArray.map a'.eval }]⟩) hy g5 H' μ2 _ w' hS2) fun e a'' w'' hpo => ?_
            obtain ⟨ex, env2, hp2, H2, μ3, q1, q2, q3, q4⟩ := hpo
            refine .inr ⟨g, cv, _, cs', ex, env2, hp2, H2, μ3, ⟨?_, g4⟩, q1, q2, (k3.toNj.trans s2).trans q3.toNj, fun j hj => (q3.ext j).trans ((s3 j hj).trans (k3.ext j)), q4⟩
            refine ⟨s4.1, fun q v hq => (s4.2 q v hq).mono q3.imm fun i hi => ?_⟩
            obtain ⟨j, rfl⟩ := V.allEL_has g4 (V.hasL_get hq hi)
            exact q3.ext j
        · cases hc
      · split at hc
        · rename_i cx fy hx hy
          simp only [Option.some.injEq] at hc; subst hc
          exact plain hx hy h H μ a w hS
        · cases hc
    · rename_i x' y' hno heq
      injection heq with e1 e2
      subst e1; subst e2
      split at hc
      · rename_i cx fy hx hy
        simp only [Option.some.injEq] at hc; subst hc
        exact plain hx hy h H μ a w hS
      · cases hc
    · cases hc
  | _ => intro fc hc; simp [fcomp] at hc
end Go.Am
end

section
namespace Go.Am
variable {P : Program} {n : Nat} {H : Imm} {μ : Mu} {env : Env} {hp : Hp} {a : Act} {w : World}
def dEnd (P : Program) (k : Nat) (rs : List IOp) (Q : Res → Prop) (rec : Bool) (g : FuncId) (cs : List V) : Qs
  | .normal, env, hp | .ret, env, hp => ∃ E h, Wk E h env hp ∧ dCall P rec g cs none E h fun env' hp' => ∃ E' h', Wk E' h' env' hp' ∧ retX k rs Q .ret E' h'
  | .pan p, env, hp => p.pure = true ∧ ∃ E h, Wk E h env hp ∧ dCall P rec g cs (some p) E h fun env' hp' => match rec with
    | true => ∃ E' h', Wk E' h' env' hp' ∧ retX k rs Q .ret E' h'
    | false => retX k rs Q (.pan p) env' hp'
  | .exit _, _, _ => False
theorem leaves_end {m : Sz} {fn : Func} {rs : List IOp} {k : Nat} {Q : Res → Prop} {H0 : Imm} {μ0 : Mu} {hp0 : Hp} {w0 : World} (k6 : rcompL P fn.results.toList = some rs) (hS : Sat m H μ env hp a w)
    (hN : Nj H0 μ0 hp0 w0 H μ hp w) (hext : ∀ j, j < k → μ (.e j) = μ0 (.e j)) (h : ∃ E' h', Wk E' h' env hp ∧ retX k rs Q .ret E' h') :
    Leaves P fn a.tmps (fun e w' => ∃ r H' μ', Q r ∧ JP H0 μ0 k hp0 w0 r e H' μ' w') [] .returning w := by
  obtain ⟨E, h', hwk, h⟩ := h
  obtain ⟨μ2, r1, r2⟩ := hwk m H μ a w hS
  obtain ⟨x, x1, x2⟩ := fin_ret k6 r1 (hN.trans r2.toNj) (fun j hj => (r2.ext j).trans (hext j hj)) h
  exact ⟨x, x1, x2⟩
theorem J_dfr {f : FuncId} {fc : FCd} {rs : List IOp} {args : List V} {obs : List Ob} {Q : Res → Prop} (rec : Bool) (hf : FnD P f n fc rs) (hlen : args.length ≤ n)
    (h : vcF P obs.length fc (envOfArgs 0 args) (hpE 0 obs) (wkQ (retX obs.length rs Q)) (dEnd P obs.length rs Q rec)) : J P f args obs Q := by
  intro H μ vs w h1 h2
  obtain ⟨fn, c, k1, k2, k3, k4, k5, k6⟩ := hf.ex
  have hrun : (callFunc f vs).run P w = .ok (.enter f vs) w := by
    have k2' : ¬ fn.name = "runtime.NumGoroutine" := by simpa using k2
    simp [callFunc, k1, k2', k3]
  unfold Called
  rw [hrun]
  refine calls_of_wp_defers k1 k3 ?_
  rw [k4]
  have hS := sat_start (w := w) (hp := hpE 0 obs) hlen h1 h2
  refine wp_mono (vcF_ok (k := obs.length) k5 h H μ _ w hS) fun e a' w' hpo => ?_
  rcases hpo with hpo | hpo
  · obtain ⟨ex, env', hp', H', μ', q1, q2, q3, q4⟩ := hpo
    have hd : a'.defers = [] := q4.defers
    have hret : ex = .normal ∨ ex = .ret → Leaves P fn a'.tmps (fun e w' => ∃ r H' μ', Q r ∧ JP H μ obs.length (hpE 0 obs) w r e H' μ' w') [] .returning w' := by
      intro q
      refine leaves_end k6 q4 q3.toNj (fun j _ => q3.ext j) ?_
      rcases q with rfl | rfl
      · obtain ⟨E, h, r1, r2⟩ := q1; exact ⟨E, h, r1, r2⟩
      · exact q1
    cases ex with
    | normal => cases e <;> simp only [Ex.ok] at q2; simp only [bodyPostD, hd]; exact hret (.inl rfl)
    | ret => cases e <;> simp only [Ex.ok] at q2; simp only [bodyPostD, hd]; exact hret (.inr rfl)
    | exit i => exact q1.elim
    | pan v =>
      cases e <;> simp only [Ex.ok] at q2
      obtain ⟨x, rfl, hx⟩ := q2
      simp only [bodyPostD, hd]
      exact fin_pan (env := env') (rs := rs) hx q4.wd q3.toNj (fun j _ => q3.ext j) q1
  · obtain ⟨g, cv, dargs, cs, ex, env', hp', H', μ', ⟨q0, qe⟩, q1, q2, q3, q5, q4⟩ := hpo
    have hd : a'.defers = [{ target := .fn (.func g) cv, args := dargs }] := q4.defers
    have wk : ∀ {E : Env} {h : Hp}, Wk E h env' hp' → ∃ μ2, Sat ⟨n, [{ target := .fn (.func g) cv, args := dargs }]⟩ H' μ2 E h a' w' ∧ Nx H' μ' hp' w' H' μ2 h w' ∧ RL H' μ2 cs (dargs ++ cv) := by
      intro E h hwk
      obtain ⟨μ2, r1, r2⟩ := hwk _ H' μ' a' w' q4
      refine ⟨μ2, r1, r2, q0.1, fun q v hq => (q0.2 q v hq).mono (Imm.le_refl _) fun i hi => ?_⟩
      obtain ⟨j, rfl⟩ := V.allEL_has qe (V.hasL_get hq hi)
      exact r2.ext j
    have hinv : (callFunc g (dargs ++ cv)).run P w' = .ok (.enter g (dargs ++ cv)) w' → (invoke (.fn (.func g) cv) dargs).run P w' = .ok (.enter g (dargs ++ cv)) w' := fun h => h
    have hret : (∃ E h, Wk E h env' hp' ∧ dCall P rec g cs none E h fun env' hp' => ∃ E' h', Wk E' h' env' hp' ∧ retX obs.length rs Q .ret E' h') →
        Leaves P fn a'.tmps (fun e w' => ∃ r H' μ', Q r ∧ JP H μ obs.length (hpE 0 obs) w r e H' μ' w') a'.defers .returning w' := by
      rintro ⟨E, h, r1, r2⟩
      obtain ⟨μ2, s1, s2, s3⟩ := wk r1
      obtain ⟨t1, t2⟩ := dCall_ok (pv := none) s1 s3 (u := .returning) rfl r2
      rw [hd]
      refine leaves_cons (by simp) (hinv t1) (t2.mono fun e u' w'' hq => ?_)
      obtain ⟨hu, v, rfl, env2, hp2, H2, μ3, p1, p2, p3⟩ := hq
      have : settle u' = .returning := by rw [hu]; cases rec <;> rfl
      simp only [this]
      exact leaves_end k6 p2 ((q3.trans s2.toNj).trans p3.toNj) (fun j hj => (p3.ext j).trans ((s2.ext j).trans (q5 j hj))) p1
    cases ex with
    | normal => cases e <;> simp only [Ex.ok] at q2; exact hret q1
    | ret => cases e <;> simp only [Ex.ok] at q2; exact hret q1
    | exit i => exact q1.elim
    | pan p =>
      cases e <;> simp only [Ex.ok] at q2
      obtain ⟨x, rfl, hx⟩ := q2
      obtain ⟨hp, E, h, r1, r2⟩ := q1
      obtain ⟨μ2, s1, s2, s3⟩ := wk r1
      have hx0 : R H' Mu.bot p x := hx.pure hp Mu.bot
      obtain ⟨t1, t2⟩ := dCall_ok (pv := some p) s1 s3 (u := .panicking [{ v := x, recovered := false }]) ⟨x, rfl, hx0⟩ r2
      simp only [bodyPostD, hd]
      refine leaves_cons (by simp) (hinv t1) (t2.mono fun e u' w'' hq => ?_)
      obtain ⟨hu, v, rfl, env2, hp2, H2, μ3, p1, p2, p3⟩ := hq
      have hN := (q3.trans s2.toNj).trans p3.toNj
      have hE : ∀ j, j < obs.length → μ3 (.e j) = μ (.e j) := fun j hj => (p3.ext j).trans ((s2.ext j).trans (q5 j hj))
      cases rec with
      | true =>
        have : settle u' = .returning := by rw [hu]; rfl
        simp only [this]
        exact leaves_end k6 p2 hN hE p1
      | false =>
        have : settle u' = .panicking [{ v := x, recovered := false }] := by rw [hu]; rfl
        simp only [this]
        exact fin_pan (env := env2) (rs := rs) ((hx0.pure hp μ3).le p3.imm) p2.wd hN hE p1
end Go.Am
end

section
namespace Go.Am
variable {P : Program} {env : Env} {hp : Hp}
@[simp] theorem intO_tmp {t : Nat} {d : Int} {K : Int → Prop} : intO (some (Env.ev env (.tmp t))) d K = lookK env t (hold fun v => intK v (hold fun _ n => K n)) := by
  simp only [lookK_eq, hold]
  show intO (some (env.lookup t)) d K = _
  cases h : env.lookup t with
  | none => simp [intO]
  | some v => cases v with
    | c x => cases x <;> simp [intO, intK]
    | _ => simp [intO, intK]
@[simp] theorem intO_const {k : IntKind} {i d : Int} {K : Int → Prop} : intO (some (Env.ev env (.const (.int k i)))) d K = K i := _root_.id rfl
theorem elemK_eq_of {xs : List (List V)} {k : Nat} {e : List V} {K : List V → Prop} (h : xs[k]? = some e) : elemK xs k K = K e := by simp [elemK, h]
theorem endP {k : Nat} {rs : List IOp} {Q : Res → Prop} {v : V} (h : outV hp (esL 0 k) v (hold fun u obs => Q (.pan u obs))) : wkQ (retX k rs Q) (.pan v) env hp := h
@[simp high] theorem nth_lit1 {α : Type} {x0 x1 : α} {l : List α} : (x0 :: x1 :: l)[1]? = some x1 := rfl
@[simp high] theorem nth_lit2 {α : Type} {x0 x1 x2 : α} {l : List α} : (x0 :: x1 :: x2 :: l)[2]? = some x2 := rfl
@[simp high] theorem nth_lit3 {α : Type} {x0 x1 x2 x3 : α} {l : List α} : (x0 :: x1 :: x2 :: x3 :: l)[3]? = some x3 := rfl
@[simp high] theorem nth_lit4 {α : Type} {x0 x1 x2 x3 x4 : α} {l : List α} : (x0 :: x1 :: x2 :: x3 :: x4 :: l)[4]? = some x4 := rfl
@[simp high] theorem nth_lit5 {α : Type} {x0 x1 x2 x3 x4 x5 : α} {l : List α} : (x0 :: x1 :: x2 :: x3 :: x4 :: x5 :: l)[5]? = some x5 := rfl
@[simp high] theorem nth_lit6 {α : Type} {x0 x1 x2 x3 x4 x5 x6 : α} {l : List α} : (x0 :: x1 :: x2 :: x3 :: x4 :: x5 :: x6 :: l)[6]? = some x6 := rfl
@[simp high] theorem nth_lit7 {α : Type} {x0 x1 x2 x3 x4 x5 x6 x7 : α} {l : List α} : (x0 :: x1 :: x2 :: x3 :: x4 :: x5 :: x6 :: x7 :: l)[7]? = some x7 := rfl
@[simp high] theorem nth_lit8 {α : Type} {x0 x1 x2 x3 x4 x5 x6 x7 x8 : α} {l : List α} : (x0 :: x1 :: x2 :: x3 :: x4 :: x5 :: x6 :: x7 :: x8 :: l)[8]? = some x8 := rfl
@[simp high] theorem nth_lit9 {α : Type} {x0 x1 x2 x3 x4 x5 x6 x7 x8 x9 : α} {l : List α} : (x0 :: x1 :: x2 :: x3 :: x4 :: x5 :: x6 :: x7 :: x8 :: x9 :: l)[9]? = some x9 := rfl
end Go.Am
end

section
namespace Go.Am
variable {P : Program}
theorem JP.congr {H : Imm} {μ : Mu} {k : Nat} {hp hq : Hp} {w : World} (ho : ∀ b, Owns hq μ b ↔ Owns hp μ b) {r : Res} {e : Ending} {H' : Imm} {μ' : Mu} {w' : World} (h : JP H μ k hp w r e H' μ' w') : JP H μ k hq w r e H' μ' w' := by
  have nj : ∀ {hp' : Hp}, Nj H μ hp w H' μ' hp' w' → Nj H μ hq w H' μ' hp' w' := fun n =>
    ⟨n.imm, n.os, n.tape, n.output, n.size, fun b hb hno => n.keep b hb fun h => hno ((ho b).2 h), fun b h hb => (ho b).2 (n.own b h hb), fun b cs h h0 => (n.fresh b cs h h0).imp id (ho b).2⟩
  cases r with
  | ret v obs => exact ⟨h.1, nj h.2.1, h.2.2⟩
  | pan v obs => exact ⟨h.1, nj h.2.1, h.2.2⟩
def rest (vals : Array Value) (sz k m : Nat) : List (List V) := (List.range m).map fun j => (List.range sz).map fun q => V.c (vals.getD ((k + j) * sz + q) undef)
theorem rest_get {vals : Array Value} {sz k m j : Nat} {e : List V} (h : (rest vals sz k m)[j]? = some e) : j < m ∧ e = (List.range sz).map fun q => V.c (vals.getD ((k + j) * sz + q) undef) := by
  unfold rest at h
  rw [List.getElem?_map] at h
  cases hr : (List.range m)[j]? with
  | none => rw [hr] at h; cases h
  | some i =>
    rw [hr] at h
    simp only [Option.map_some, Option.some.injEq] at h
    have hlt : j < m := by have := (List.getElem?_eq_some_iff.1 hr).1; simpa using this
    have : i = j := by rw [List.getElem?_range hlt] at hr; injection hr with hr; exact hr.symm
    subst this
    exact ⟨hlt, h.symm⟩
theorem J_cap {f : FuncId} {m ty sz : Nat} {xs : List (List V)} {asV : List V} {os : List Ob} {Q : Res → Prop}
    (h : ∀ (c : Nat) (js : List (List V)), m ≤ c → (c = 0 ∧ js = [] ∨ (xs ++ js).length = c) → (∀ e ∈ js, e.length = sz ∧ scalars e = true ∧ V.pureL e = true) → J P f (.arc (.e 0) 0 m c :: asV) (.row ty sz true (xs ++ js) :: os) Q) :
    J P f (.arr (.e 0) 0 m :: asV) (.row ty sz true xs :: os) Q := by
  intro H μ vs w hv hW
  have h0 := hv.2 0 (.arr (.e 0) 0 m) rfl
  have hlk : (hpE 0 (.row ty sz true xs :: os)).lookup (.e 0) = some (.row ty sz true xs) := by simp [hpE]
  have key : ∀ (c : Nat) (js : List (List V)), m ≤ c → (c = 0 ∧ js = [] ∨ (xs ++ js).length = c) → (∀ e ∈ js, e.length = sz ∧ scalars e = true ∧ V.pureL e = true) → R H μ (.arc (.e 0) 0 m c) (vs.getD 0 undef) → ObOk H μ w (.e 0) (.row ty sz true (xs ++ js)) →
      Called P f vs w fun e w' => ∃ r H' μ', Q r ∧ JP H μ (Ob.row ty sz true xs :: os).length (hpE 0 (.row ty sz true xs :: os)) w r e H' μ' w' := by
    intro c js h1 h2 h3 h4 h5
    have hcase : ∀ i o, (hpE 0 (.row ty sz true (xs ++ js) :: os)).lookup i = some o → (i = .e 0 ∧ o = .row ty sz true (xs ++ js)) ∨ (i ≠ .e 0 ∧ (hpE 0 (.row ty sz true xs :: os)).lookup i = some o) := by
      intro i o hl
      simp only [hpE, List.lookup_cons] at hl ⊢
      by_cases hi : i = .e 0
      · subst hi; simp at hl; exact .inl ⟨rfl, hl.symm⟩
      · have : (i == Id.e 0) = false := by simpa using hi
        rw [this] at hl ⊢
        exact .inr ⟨hi, hl⟩
    have hcase2 : ∀ i o, (hpE 0 (.row ty sz true xs :: os)).lookup i = some o → (i = .e 0 ∧ o = .row ty sz true xs) ∨ (i ≠ .e 0 ∧ (hpE 0 (.row ty sz true (xs ++ js) :: os)).lookup i = some o) := by
      intro i o hl
      simp only [hpE, List.lookup_cons] at hl ⊢
      by_cases hi : i = .e 0
      · subst hi; simp at hl; exact .inl ⟨rfl, hl.symm⟩
      · have : (i == Id.e 0) = false := by simpa using hi
        rw [this] at hl ⊢
        exact .inr ⟨hi, hl⟩
    have hlk' : (hpE 0 (.row ty sz true (xs ++ js) :: os)).lookup (.e 0) = some (.row ty sz true (xs ++ js)) := by simp [hpE]
    have hO : ∀ b, Owns (hpE 0 (.row ty sz true xs :: os)) μ b ↔ Owns (hpE 0 (.row ty sz true (xs ++ js) :: os)) μ b := by
      intro b
      constructor
      · rintro ⟨i, o, blk, q1, q2, q3, q4⟩
        rcases hcase2 i o q1 with ⟨rfl, rfl⟩ | ⟨_, q⟩
        · exact ⟨_, _, blk, hlk', rfl, q3, q4⟩
        · exact ⟨i, o, blk, q, q2, q3, q4⟩
      · rintro ⟨i, o, blk, q1, q2, q3, q4⟩
        rcases hcase i o q1 with ⟨rfl, rfl⟩ | ⟨_, q⟩
        · exact ⟨_, _, blk, hlk, rfl, q3, q4⟩
        · exact ⟨i, o, blk, q, q2, q3, q4⟩
    have back : ∀ i o, (hpE 0 (.row ty sz true (xs ++ js) :: os)).lookup i = some o → o.own = true → ∃ o', (hpE 0 (.row ty sz true xs :: os)).lookup i = some o' ∧ o'.own = true := by
      intro i o hl ho
      rcases hcase i o hl with ⟨rfl, rfl⟩ | ⟨_, q⟩
      · exact ⟨_, hlk, rfl⟩
      · exact ⟨o, q, ho⟩
    have hW' : Wd H μ (hpE 0 (.row ty sz true (xs ++ js) :: os)) w := by
      refine ⟨fun i o hl => ?_, fun i j oi oj bi bj hi hoi hj hoj hbi hbj e => ?_, hW.imm, hW.glo⟩
      · rcases hcase i o hl with ⟨rfl, rfl⟩ | ⟨_, q⟩
        · exact h5
        · exact hW.ob i o q
      · obtain ⟨o1, a1, a2⟩ := back i oi hi hoi
        obtain ⟨o2, b1, b2⟩ := back j oj hj hoj
        exact hW.inj i j o1 o2 bi bj a1 a2 b1 b2 hbi hbj e
    have hv' : RL H μ (.arc (.e 0) 0 m c :: asV) vs := ⟨by simpa using hv.1, fun j v hj => by
      cases j with
      | zero => simp at hj; subst hj; exact h4
      | succ j => exact hv.2 (j + 1) v (by simpa using hj)⟩
    refine (h c js h1 h2 h3 H μ vs w hv' hW').mono fun e w' ⟨r, H', μ', q1, q2⟩ => ⟨r, H', μ', q1, ?_⟩
    have hk : (Ob.row ty sz true (xs ++ js) :: os).length = (Ob.row ty sz true xs :: os).length := rfl
    rw [hk] at q2
    exact q2.congr hO
  generalize vs.getD 0 undef = x at h0 key
  cases h0 with
  | arr _ _ _ a cap hc hb =>
  rcases hb with rfl | ⟨blk, b1, b2, b3⟩
  · exact key 0 [] hc (.inl ⟨rfl, rfl⟩) (by simp) (.arc _ _ _ _ _ hc (.inl rfl)) (by simpa using hW.ob _ _ hlk)
  · rcases hW.ob _ _ hlk with ⟨rfl, z⟩ | ⟨blk', vals, k1, ⟨k2, k2', k2''⟩, k3, k4, k5, k6, k7, k8, k9⟩
    · rw [z] at b1; cases b1
    rw [b1] at k1; injection k1 with k1; subst k1
    have hcap : cap = blk.cap := by omega
    have hlen : (rest vals sz xs.length (cap - xs.length)).length = cap - xs.length := by simp [rest]
    have hone := k2'' rfl
    have hin : ∀ {j q : Nat}, j < cap - xs.length → q < sz → (xs.length + j) * sz + q < vals.size := by
      intro j q hj hq
      rw [k4, ← hcap]
      have : (xs.length + j + 1) * sz ≤ cap * sz := Nat.mul_le_mul_right _ (by omega)
      rw [Nat.add_mul] at this; omega
    refine key cap (rest vals sz xs.length (cap - xs.length)) hc (.inr (by rw [List.length_append, hlen]; omega)) (fun e he => ?_) (.arc _ _ _ _ _ hc (.inr ⟨blk, b1, b2, b3⟩)) (.inr ⟨blk, vals, b1, ⟨k2, k2', k2''⟩, k3, k4, by rw [List.length_append, hlen]; omega, fun k e he => ?_, k7, k8, fun k e he => ?_⟩)
    · obtain ⟨j, hj⟩ := List.mem_iff_getElem?.1 he
      obtain ⟨g1, rfl⟩ := rest_get hj
      refine ⟨by simp, scalars_of fun q v hq => ?_, ?_⟩
      · rw [List.getElem?_map] at hq
        cases hr : (List.range sz)[q]? with
        | none => rw [hr] at hq; cases hq
        | some q' =>
          have hlt : q < sz := by have := (List.getElem?_eq_some_iff.1 hr).1; simpa using this
          rw [List.getElem?_range hlt] at hr; injection hr with hr; subst hr
          rw [List.getElem?_range hlt] at hq
          simp only [Option.map_some, Option.some.injEq] at hq; subst hq
          have hb := hin g1 hlt
          simp only [V.scalar]
          refine hone ((xs.length + j) * sz + q) _ ?_
          rw [Array.getD_eq_getD_getElem?, Array.getElem?_eq_getElem hb]; rfl
      · clear he hj
        induction (List.range sz) with
        | nil => rfl
        | cons a l ih => simp only [List.map_cons, V.pureL, V.pure, Bool.true_and]; exact ih
    · rw [List.getElem?_append] at he
      split at he
      · exact k6 k e he
      · obtain ⟨g1, rfl⟩ := rest_get he
        refine ⟨by simp, scalars_of fun q v hq => ?_⟩
        rw [List.getElem?_map] at hq
        cases hr : (List.range sz)[q]? with
        | none => rw [hr] at hq; cases hq
        | some q' =>
          have hlt : q < sz := by have := (List.getElem?_eq_some_iff.1 hr).1; simpa using this
          rw [List.getElem?_range hlt] at hr; injection hr with hr; subst hr
          rw [List.getElem?_range hlt] at hq
          simp only [Option.map_some, Option.some.injEq] at hq; subst hq
          have hb := hin g1 hlt
          simp only [V.scalar]
          refine hone ((xs.length + (k - xs.length)) * sz + q) _ ?_
          rw [Array.getD_eq_getD_getElem?, Array.getElem?_eq_getElem hb]; rfl
    · rw [List.getElem?_append] at he
      split at he
      · exact k9 k e he
      · rename_i hge
        obtain ⟨g1, rfl⟩ := rest_get he
        intro q v hq
        rw [List.getElem?_map] at hq
        cases hr : (List.range sz)[q]? with
        | none => rw [hr] at hq; cases hq
        | some q' =>
          have hlt : q < sz := by have := (List.getElem?_eq_some_iff.1 hr).1; simpa using this
          rw [List.getElem?_range hlt] at hr; injection hr with hr; subst hr
          rw [List.getElem?_range hlt] at hq
          simp only [Option.map_some, Option.some.injEq] at hq; subst hq
          have hb := hin g1 hlt
          refine ⟨vals.getD ((xs.length + (k - xs.length)) * sz + q) undef, ?_, .c _⟩
          rw [Array.getD_eq_getD_getElem?, Array.getElem?_eq_getElem hb]
          have hk' : xs.length + (k - xs.length) = k := by omega
          simp only [hk'] at hb ⊢
          rw [Array.getElem?_eq_getElem hb]; rfl
def preO (o' o : Ob) : Prop := o' = o ∨ ∃ ty sz own xs t, o = .row ty sz own (xs ++ t) ∧ o' = .row ty sz own xs
theorem preO_row {ty sz : Nat} {own : Bool} {xs t ys : List (List V)} (h : ys = xs ++ t) : preO (.row ty sz own xs) (.row ty sz own ys) := .inr ⟨ty, sz, own, xs, t, by rw [h], rfl⟩
theorem ObOk.pre {H : Imm} {μ : Mu} {w : World} {i : Id} {o o' : Ob} (h : ObOk H μ w i o) (hp : preO o' o) : ObOk H μ w i o' ∧ o'.own = o.own := by
  rcases hp with rfl | ⟨ty, sz, own, xs, t, rfl, rfl⟩
  · exact ⟨h, rfl⟩
  · refine ⟨?_, rfl⟩
    rcases h with ⟨h1, h2⟩ | ⟨blk, vals, h1, h2, h3, h4, h5, h6, h7, h8, h9⟩
    · exact .inl ⟨(List.append_eq_nil_iff.1 h1).1, h2⟩
    · have get : ∀ (k : Nat) (e : List V), xs[k]? = some e → (xs ++ t)[k]? = some e := fun k e he => by
        rw [List.getElem?_append_left (List.getElem?_eq_some_iff.1 he).1]; exact he
      exact .inr ⟨blk, vals, h1, h2, h3, h4, by simp at h5; omega, fun k e he => h6 k e (get k e he), h7, h8, fun k e he => h9 k e (get k e he)⟩
theorem Wk.pre {env E : Env} {hp h : Hp} (hE : ∀ p ∈ E, lookK env p.1 (· = p.2)) (hh : ∀ p ∈ h, objK hp p.1 fun o => preO p.2 o) : Wk E h env hp := fun n H μ a w hS => by
  have hob : ∀ i o, h.lookup i = some o → ∃ o', hp.lookup i = some o' ∧ preO o o' := by
    intro i o hl
    have := hh (i, o) (lookup_mem0 hl)
    rw [objK_eq] at this
    exact this
  have hW := hS.wd
  refine ⟨μ, ⟨hS.defers, hS.size, fun s v hs => ?_, ⟨fun i o hl => ?_, fun i j oi oj bi bj hi hoi hj hoj hbi hbj e => ?_, hW.imm, hW.glo⟩⟩, ⟨⟨Imm.le_refl H, rfl, rfl, rfl, Nat.le_refl _, fun _ _ _ => rfl, fun b hO _ => ?_, fr0⟩, fun _ => rfl⟩⟩
  · have h1 := hE (s, v) (lookup_mem0 hs)
    rw [lookK_eq] at h1
    obtain ⟨u, h2, rfl⟩ := h1
    exact hS.env s u h2
  · obtain ⟨o', h1, h2⟩ := hob i o hl
    exact ((hW.ob i o' h1).pre h2).1
  · obtain ⟨o1, h1, h2⟩ := hob i oi hi
    obtain ⟨o2, k1, k2⟩ := hob j oj hj
    exact hW.inj i j o1 o2 bi bj h1 (by rw [← ((hW.ob i o1 h1).pre h2).2]; exact hoi) k1 (by rw [← ((hW.ob j o2 k1).pre k2).2]; exact hoj) hbi hbj e
  · obtain ⟨i, o, blk, h1, h2, h3, h4⟩ := hO
    obtain ⟨o', k1, k2⟩ := hob i o h1
    exact ⟨i, o', blk, k1, by rw [← ((hW.ob i o' k1).pre k2).2]; exact h2, h3, h4⟩
theorem J_overlaps {f : FuncId} {fn : Func} {tS tR e : TypeId} {sz : Nat} (hf : P.funcs[f]? = some fn) (hn : (fn.name == "runtime.NumGoroutine") = false) (hb : fn.body.isNone = true) (h1 : (Extern.findNext fn).isNone = true)
    (he : Extern.find fn = some (Extern.SlicesOverlaps.overlaps #[tS, tS] #[tR])) (ht : P.underlying tS = some (.slice e)) (hz : (P.info? e).map (·.size) = some sz) (ty o m o' m' : Nat) (xs ys : List (List V)) (hpos : 0 < sz) :
    J P f [.arr (.e 0) o m, .arr (.e 1) o' m'] [.row ty sz true xs, .row ty sz true ys] (· = .ret (.c (.bool false)) [.row ty sz true xs, .row ty sz true ys]) := by
  intro H μ vs w hv hW
  have r0 := hv.2 0 _ rfl
  have r1 := hv.2 1 _ rfl
  have hvs : vs = #[vs.getD 0 undef, vs.getD 1 undef] := by
    apply Array.ext
    · have := hv.1; simpa using this
    · intro i h1 h2
      have : i = 0 ∨ i = 1 := by simp at h2; omega
      have hs : vs.size = 2 := by have := hv.1; simpa using this
      rcases this with rfl | rfl <;> simp [Array.getD, hs]
  have hrun : ((Extern.SlicesOverlaps.overlaps #[tS, tS] #[tR]) vs).run P w = .ok (.bool false) w := by
    rw [hvs]
    generalize vs.getD 0 undef = x at r0
    generalize vs.getD 1 undef = y at r1
    have hsz : ∀ w, (Go.sizeOf e).run P w = .ok sz w := by
      intro w
      cases hi : P.info? e with
      | none => rw [hi] at hz; cases hz
      | some i => rw [hi] at hz; simp at hz; subst hz; simp [sizeOf, typeInfo, hi]
    cases r0 with
    | arr _ _ _ a c hc ha =>
    cases r1 with
    | arr _ _ _ b c' hc' hb' =>
    have triv : (a = none ∨ b = none ∨ m = 0 ∨ m' = 0) → ((Extern.SlicesOverlaps.overlaps #[tS, tS] #[tR]) #[.slice a m c, .slice b m' c']).run P w = .ok (.bool false) w := by
      intro h
      change Sem.run P (α := Value) (do
        let some t := (#[tS, tS] : Array TypeId)[0]? | stuck "slices.overlaps: no parameter types"
        let .slice elem ← underlying t | stuck "slices.overlaps: slice type expected"
        let size ← sizeOf elem
        match (a : Option Addr), (b : Option Addr) with
        | some a, some b =>
          if m = 0 ∨ m' = 0 ∨ size = 0 then pure (Value.bool false)
          else if a.block != b.block && (← frozen a) && (← frozen b) then unsupported .addressObserved
          else do
            if a.block != b.block then do
              noView a; noView b
              if ← mayBeOne a b then return Value.bool ((← choose (.extern "sameAddr.stringBytes" 2)) == 1)
            pure (Value.bool (a.block == b.block && a.off < b.off + m' * size && b.off < a.off + m * size))
        | _, _ => pure (Value.bool false)) w = _
      cases a with
      | none => simp [run_underlying ht, hsz]
      | some a =>
        cases b with
        | none => simp [run_underlying ht, hsz]
        | some b =>
          have : m = 0 ∨ m' = 0 := by simpa using h
          rcases this with rfl | rfl <;> simp [run_underlying ht, hsz]
    by_cases h0 : m = 0 ∨ m' = 0
    · exact triv (.inr (.inr h0))
    · obtain ⟨ba, a1, a2, a3⟩ := ha.resolve_left (by omega)
      obtain ⟨bb, c1, c2, c3⟩ := hb'.resolve_left (by omega)
      have l0 : (hpE 0 [Ob.row ty sz true xs, Ob.row ty sz true ys]).lookup (.e 0) = some (.row ty sz true xs) := rfl
      have l1 : (hpE 0 [Ob.row ty sz true xs, Ob.row ty sz true ys]).lookup (.e 1) = some (.row ty sz true ys) := rfl
      rcases hW.ob _ _ l0 with ⟨_, z⟩ | ⟨blk, cur, p1, p2, p3, p4, _⟩
      · rw [z] at a1; cases a1
      rcases hW.ob _ _ l1 with ⟨_, z⟩ | ⟨blk', cur', q1, q2, q3, q4, _⟩
      · rw [z] at c1; cases c1
      rw [a1] at p1; injection p1 with p1; subst p1
      rw [c1] at q1; injection q1 with q1; subst q1
      have hne : ba.b ≠ bb.b := fun e => by
        have := hW.inj _ _ _ _ ba bb l0 rfl l1 rfl a1 c1 e
        cases this
      subst a2 c2
      have hkb : cur'.size ≠ 0 := by
        rw [q4]
        have hcb : 0 < bb.cap := by
          have : m' ≠ 0 := fun e => h0 (.inr e)
          omega
        exact Nat.pos_iff_ne_zero.1 (Nat.mul_pos hcb hpos)
      exact Go.Lib.run_overlaps_apart w tS tR e ht sz hsz ⟨ba.b, _, none⟩ ⟨bb.b, _, none⟩ m c m' c' hne ty ty cur.size cur'.size (by simp [World.shape?, p3]) (by simp [World.shape?, q3]) hkb (by simp [World.frozen?, p3]) (by simp [World.frozen?, p3])
  have hcall : (callFunc f vs).run P w = .ok (.value (.bool false)) w := by
    rw [run_callFunc_extern hf hn hb (by simpa using h1) he, hrun]; rfl
  unfold Called
  rw [hcall]
  exact ⟨_, H, μ, rfl, ⟨_, rfl, .c _⟩, (Nx.refl H μ _ w).toNj, hW, by simp, fun _ _ _ _ _ => rfl⟩
end Go.Am
end

section
namespace Go.Am
set_option maxRecDepth 100000
attribute [local irreducible] vc vcIs vcI vcOp vcD vcDp vcDR vcT vcAR stepD stepDp panD neG ne pv J callS callN loopS lookK evK evsK nthK objK boxK rowK boolK intK strK aggK fnK ifcK cellsK cellsLK ldK ldaK iaK srcK stK appK appD isnlD pvK callJ callJD callA
theorem slices_overlaps_spec (o m o' m' : Nat) (xs ys : List (List V)) :
    J prog f_slices_overlaps_api_Value [.arr (.e 0) o m, .arr (.e 1) o' m'] [.row t_api_Value 4 true xs, .row t_api_Value 4 true ys] (· = .ret (.c (.bool false)) [.row t_api_Value 4 true xs, .row t_api_Value 4 true ys]) :=
  J_overlaps (fn := Go.Proofs.Tryz.f137) (tS := 22) (tR := 4) (e := 31) (sz := 4) Go.Proofs.Tryz.func137 (by kernel_rfl) (by kernel_rfl) (by kernel_rfl) (by kernel_rfl) (by kernel_rfl) (by kernel_rfl) _ _ _ _ _ _ _ (by omega)
theorem preO_take {ty sz : Nat} {own : Bool} {xs ys : List (List V)} (k : Nat) (h : ys.take k = xs) : preO (.row ty sz own xs) (.row ty sz own ys) :=
  preO_row (t := ys.drop k) (by rw [← h, List.take_append_drop])
theorem del_row {α : Type} {xs js Z Y : List α} {i j n : Nat} (hij : i < j) (hj : j ≤ xs.length) (hn : n = i + (xs.length - j)) :
    (List.take n (List.take i (xs ++ js) ++ (List.take (xs.length - j) (List.drop j (xs ++ js)) ++ Z)) ++ Y).take n = xs.take i ++ xs.drop j := by
  subst hn
  have e1 : List.take i (xs ++ js) = List.take i xs := List.take_append_of_le_length (by omega)
  have e2 : List.drop j (xs ++ js) = List.drop j xs ++ js := List.drop_append_of_le_length hj
  have e3 : List.take (xs.length - j) (List.drop j xs ++ js) = List.drop j xs := by
    rw [List.take_append_of_le_length (by simp), List.take_of_length_le (by simp)]
  have hlen : (List.take i xs ++ List.drop j xs).length = i + (xs.length - j) := by simp; omega
  rw [e1, e2, e3, ← List.append_assoc, List.take_append_of_le_length (Nat.le_of_eq hlen.symm), List.take_of_length_le (Nat.le_of_eq hlen), List.take_append_of_le_length (Nat.le_of_eq hlen.symm), List.take_of_length_le (Nat.le_of_eq hlen)]
theorem slices_Delete_spec (xs : List (List V)) (i j : Nat) (hij : i < j) (hj : j ≤ xs.length) (hl : xs.length < 2 ^ 40) :
    J prog f_slices_Delete__api_Value_api_Value [.arr (.e 0) 0 xs.length, vI i, vI j] [.row t_api_Value 4 true xs] (· = .ret (.arr (.e 1) 0 (i + (xs.length - j))) [.gone, .row t_api_Value 4 true (xs.take i ++ xs.drop j)]) := by
  refine J_cap fun c js h1 h2 h3 => ?_
  have hc : (xs ++ js).length = c := by
    rcases h2 with ⟨rfl, rfl⟩ | h2
    · simp at h1; subst h1; simp at hj; omega
    · exact h2
  have hlen : (xs ++ js).length = xs.length + js.length := by simp
  generalize hR : xs ++ js = R at *
  refine J_genW fn_slices_Delete__api_Value_api_Value (by simp) ?_
  simp (config := { contextual := true, maxSteps := 2000000 }) (disch := omega) [-Int.not_lt, -Int.not_le, -Nat.not_lt, -Nat.not_le, elemK_get, wrapI, leT, leF, ltT, ltF, leTn, leFn, ltTn, ltFn, cd_slices_Delete__api_Value_api_Value, hpE]
  refine ⟨fun h => by omega, fun _ => ?_⟩
  refine endR [(6, .arc (.l 999 0) 0 (i + (xs.length - j)) c)] [(.l 999 0, .row t_api_Value 4 true (xs.take i ++ xs.drop j))]
    (.trans (Wk.rens (E := [(6, .arc (.l 999 0) 0 (i + (xs.length - j)) c)]) (.e 0) (.l 999 0) rfl (by simp) (by simp [renF]) (by simp [renF, unren]))
      (Wk.pre (E := [(6, .arc (.e 0) 0 (i + (xs.length - j)) c)]) (h := [(.e 0, .row t_api_Value 4 true (xs.take i ++ xs.drop j))]) (by simp) ?_)) [.l 999 0] (by simp) ?_
  · intro p hp
    simp only [List.mem_singleton] at hp; subst hp
    simp
    rw [show ((i : Int) + ((xs.length - j : Nat) : Int)).toNat = i + (xs.length - j) by omega, ← hR]
    exact preO_take _ (del_row hij hj rfl)
  · simp (config := { contextual := true, maxSteps := 2000000 }) (disch := omega) [-Int.not_lt, -Int.not_le, -Nat.not_lt, -Nat.not_le, elemK_get, wrapI, leT, leF, ltT, ltF, leTn, leFn, ltTn, ltFn]
theorem tn2 (a b : Nat) : ((a : Int) + (b : Int)).toNat = a + b := by omega
theorem tnm2 (a b : Nat) : (max ((a : Int) + (b : Int)) 0).toNat = a + b := by omega
section
variable {α : Type} {xs js ys Z Z' rep R : List α} {i n1 : Nat}
theorem insA (hR : xs ++ js = R) (hi : i ≤ xs.length) (hn : n1 = i + ys.length) :
    (List.take n1 (List.take i (List.take i R ++ rep) ++ (ys ++ Z')) ++ (List.take (xs.length - i) (List.drop i R) ++ Z)).take (xs.length + ys.length) = xs.take i ++ (ys ++ xs.drop i) := by
  subst hR hn
  have e1 : List.take i (xs ++ js) = List.take i xs := List.take_append_of_le_length hi
  have e2 : List.drop i (xs ++ js) = List.drop i xs ++ js := List.drop_append_of_le_length hi
  have e3 : List.take (xs.length - i) (List.drop i xs ++ js) = List.drop i xs := by
    rw [List.take_append_of_le_length (by simp), List.take_of_length_le (by simp)]
  have e4 : List.take i (List.take i xs ++ rep) = List.take i xs := by
    rw [List.take_append_of_le_length (by simp; omega), List.take_take, Nat.min_self]
  have e5 : List.take (i + ys.length) (List.take i xs ++ (ys ++ Z')) = List.take i xs ++ ys := by
    rw [← List.append_assoc, List.take_append_of_le_length (by simp; omega), List.take_of_length_le (by simp; omega)]
  rw [e1, e2, e3, e4, e5, ← List.append_assoc, List.take_append_of_le_length (by simp; omega), List.take_of_length_le (by simp; omega), List.append_assoc]
theorem insB (hR : xs ++ js = R) (hi : i ≤ xs.length) (hc : xs.length + ys.length ≤ R.length) (hn : n1 = i + ys.length) :
    (List.take i (List.take n1 R ++ (List.take (xs.length - i) (List.drop i R) ++ Z)) ++ (ys ++ List.drop (i + ys.length) (List.take n1 R ++ (List.take (xs.length - i) (List.drop i R) ++ Z)))).take (xs.length + ys.length) = xs.take i ++ (ys ++ xs.drop i) := by
  subst hn
  have e0 : (List.take (i + ys.length) R).length = i + ys.length := by simp; omega
  have e1 : List.take i (List.take (i + ys.length) R ++ (List.take (xs.length - i) (List.drop i R) ++ Z)) = List.take i xs := by
    rw [List.take_append_of_le_length (by omega), List.take_take, Nat.min_eq_left (by omega), ← hR, List.take_append_of_le_length hi]
  have e2 : List.drop (i + ys.length) (List.take (i + ys.length) R ++ (List.take (xs.length - i) (List.drop i R) ++ Z)) = List.take (xs.length - i) (List.drop i R) ++ Z := by
    rw [List.drop_append_of_le_length (by omega), List.drop_of_length_le (by omega), List.nil_append]
  have e3 : List.take (xs.length - i) (List.drop i R) = List.drop i xs := by
    rw [← hR, List.drop_append_of_le_length hi, List.take_append_of_le_length (by simp), List.take_of_length_le (by simp)]
  rw [e1, e2, e3, ← List.append_assoc, ← List.append_assoc, List.take_append_of_le_length (by simp; omega), List.take_of_length_le (by simp; omega), List.append_assoc]
theorem insC (hR : xs ++ js = R) : (List.take xs.length R ++ (ys ++ Z)).take (xs.length + ys.length) = xs.take xs.length ++ (ys ++ xs.drop xs.length) := by
  subst hR
  rw [List.take_append_of_le_length (Nat.le_refl _), List.take_of_length_le (Nat.le_refl _), List.drop_of_length_le (Nat.le_refl _), ← List.append_assoc, List.take_append_of_le_length (by simp), List.take_of_length_le (by simp), List.append_nil]
end
theorem slices_Insert_spec (xs ys : List (List V)) (i : Nat) (hi : i ≤ xs.length) (hl : xs.length < 2 ^ 40) (hy0 : 0 < ys.length) (hy : ys.length < 2 ^ 20) :
    J prog f_slices_Insert__api_Value_api_Value [.arr (.e 0) 0 xs.length, vI i, .arr (.e 1) 0 ys.length] [.row t_api_Value 4 true xs, .row t_api_Value 4 true ys] (· = .ret (.arr (.e 2) 0 (xs.length + ys.length)) [.gone, .row t_api_Value 4 true ys, .row t_api_Value 4 true (xs.take i ++ (ys ++ xs.drop i))]) := by
  refine J_cap fun c js h1 h2 h3 => ?_
  have hlen : (xs ++ js).length = xs.length + js.length := by simp
  have hc : (xs ++ js).length = c ∨ (c = 0 ∧ js = [] ∧ xs.length = 0) := by
    rcases h2 with ⟨rfl, rfl⟩ | h2
    · exact .inr ⟨rfl, rfl, by omega⟩
    · exact .inl h2
  have hcl : c ≤ (xs ++ js).length := by omega
  generalize hR : xs ++ js = R at *
  have hyn : ys ≠ [] := fun e => by subst e; simp at hy0
  refine J_genW fn_slices_Insert__api_Value_api_Value (by simp) ?_
  simp (config := { contextual := true, maxSteps := 2000000 }) (disch := omega) [-Int.not_lt, -Int.not_le, -Nat.not_lt, -Nat.not_le, elemK_get, wrapI, leT, leF, ltT, ltF, leTn, leFn, ltTn, ltFn, cd_slices_Insert__api_Value_api_Value, hpE, hyn, tn2, tnm2]
  refine ⟨fun hin => ⟨fun hr => ?_, fun hr => ?_⟩, fun hin => ⟨fun hr => ?_, fun hr => ?_⟩⟩
  · have hin : i = xs.length := by omega
    subst hin
    refine endR [(6, .arc (.l 999 0) 0 (xs.length + ys.length) c)] [(.l 999 0, .row t_api_Value 4 true (xs.take xs.length ++ (ys ++ xs.drop xs.length))), (.e 1, .row t_api_Value 4 true ys)]
      (.trans (Wk.rens (.e 0) (.l 999 0) rfl (by simp) (by simp [renF]) (by simp [renF, unren]))
        (Wk.pre (E := [(6, .arc (.e 0) 0 (xs.length + ys.length) c)]) (h := [(.e 0, .row t_api_Value 4 true (xs.take xs.length ++ (ys ++ xs.drop xs.length))), (.e 1, .row t_api_Value 4 true ys)]) (by simp) ?_)) [.l 999 0] (by simp) ?_
    · intro p hp
      simp only [List.mem_cons, List.not_mem_nil, or_false] at hp
      rcases hp with rfl | rfl
      · simp only [objK, ↓reduceIte]
        exact preO_take _ (insC hR)
      · simp; exact .inl rfl
    · simp (config := { contextual := true, maxSteps := 2000000 }) (disch := omega) [-Int.not_lt, -Int.not_le, -Nat.not_lt, -Nat.not_le, elemK_get, wrapI, leT, leF, ltT, ltF, leTn, leFn, ltTn, ltFn]
  · have hin : i = xs.length := by omega
    subst hin
    refine endR [(6, .arr (.l 25 0) 0 (xs.length + ys.length))] [(.l 25 0, .row t_api_Value 4 true (xs.take xs.length ++ (ys ++ xs.drop xs.length))), (.e 1, .row t_api_Value 4 true ys)]
        (Wk.pre (by simp) ?_) [.l 25 0] (by simp) ?_
    · intro p hp
      simp only [List.mem_cons, List.not_mem_nil, or_false] at hp
      rcases hp with rfl | rfl
      · simp
        have := insC (Z := []) (ys := ys) hR
        simp at this
        exact preO_take (xs.length + ys.length) (by simpa using this)
      · simp; exact .inl rfl
    · simp (config := { contextual := true, maxSteps := 2000000 }) (disch := omega) [-Int.not_lt, -Int.not_le, -Nat.not_lt, -Nat.not_le, elemK_get, wrapI, leT, leF, ltT, ltF, leTn, leFn, ltTn, ltFn]
  · refine endR [(6, .arr (.l 40 0) 0 (xs.length + ys.length))] [(.l 40 0, .row t_api_Value 4 true (xs.take i ++ (ys ++ xs.drop i))), (.e 1, .row t_api_Value 4 true ys)]
        (Wk.pre (by simp [tn2]) ?_) [.l 40 0] (by simp) ?_
    · intro p hp
      simp only [List.mem_cons, List.not_mem_nil, or_false] at hp
      rcases hp with rfl | rfl
      · simp only [objK, ↓reduceIte]
        exact preO_take (xs.length + ys.length) (insA hR hi (tn2 _ _))
      · simp; exact .inl rfl
    · simp (config := { contextual := true, maxSteps := 2000000 }) (disch := omega) [-Int.not_lt, -Int.not_le, -Nat.not_lt, -Nat.not_le, elemK_get, wrapI, leT, leF, ltT, ltF, leTn, leFn, ltTn, ltFn]
  · refine callS_obj [.e 1, .e 0] rfl rfl (by simp) ?_
    simp
    have hpO := slices_overlaps_spec 0 ys.length ((i : Int) + (ys.length : Int)).toNat (xs.length + ys.length - ((i : Int) + (ys.length : Int)).toNat) ys R
    try simp [VmS.obs, VmS.obs', machObs] at hpO
    refine callJ_ret 67 hpO (by simp) ?_
    clear hpO
    simp (config := { contextual := true, maxSteps := 2000000 }) (disch := omega) [-Int.not_lt, -Int.not_le, -Nat.not_lt, -Nat.not_le, elemK_get, wrapI, leT, leF, ltT, ltF, leTn, leFn, ltTn, ltFn, tn2, tnm2]
    refine endR [(6, .arc (.l 999 0) 0 (xs.length + ys.length) c)] [(.l 999 0, .row t_api_Value 4 true (xs.take i ++ (ys ++ xs.drop i))), (.e 1, .row t_api_Value 4 true ys)]
      (.trans (Wk.rens (.e 0) (.l 999 0) rfl (by simp) (by simp [renF]) (by simp [renF, unren]))
        (Wk.pre (E := [(6, .arc (.e 0) 0 (xs.length + ys.length) c)]) (h := [(.e 0, .row t_api_Value 4 true (xs.take i ++ (ys ++ xs.drop i))), (.e 1, .row t_api_Value 4 true ys)]) (by simp [tn2]) ?_)) [.l 999 0] (by simp) ?_
    · intro p hp
      simp only [List.mem_cons, List.not_mem_nil, or_false] at hp
      rcases hp with rfl | rfl
      · simp [-List.append_assoc]
        have e : List.take (xs.length + ys.length - (i + ys.length)) (List.take (xs.length + ys.length - i) (List.drop i R)) = List.take (xs.length - i) (List.drop i R) := by
          rw [List.take_take]; congr 1; omega
        rw [e]
        exact preO_take _ (insB (ys := ys) hR hi (by omega) rfl)
      · simp; exact .inl rfl
    · simp (config := { contextual := true, maxSteps := 2000000 }) (disch := omega) [-Int.not_lt, -Int.not_le, -Nat.not_lt, -Nat.not_le, elemK_get, wrapI, leT, leF, ltT, ltF, leTn, leFn, ltTn, ltFn]
end Go.Am
end

section
namespace Go.Am
set_option maxRecDepth 100000
attribute [local irreducible] vc vcIs vcI vcOp vcD vcDp vcDR vcT vcAR stepD stepDp panD neG ne pv J callS callN loopS lookK evK evsK nthK objK boxK rowK boolK intK strK aggK fnK ifcK cellsK cellsLK ldK ldaK iaK srcK stK appK appD isnlD pvK callJ callJD callA
theorem Val.wtL_td (l : List Val) (i : Nat) : Val.wtL (l.take i) + Val.wtL (l.drop i) = Val.wtL l := by
  conv => rhs; rw [← List.take_append_drop i l]
  rw [Val.wtL_append]
theorem Val.wtL_set (l : List Val) (i : Nat) (x : Val) : Val.wtL (l.set i x) ≤ Val.wtL l + x.wt := by
  induction l generalizing i with
  | nil => simp [Val.wtL]
  | cons y l ih =>
    cases i with
    | zero => simp [Val.wtL]; omega
    | succ i => have := ih i; simp [Val.wtL]; omega
theorem del_vals (l : List Val) (i : Nat) (h : i + 2 ≤ l.length) (hl : l.length < 2 ^ 40) :
    J prog f_slices_Delete__api_Value_api_Value [.arr (.e 0) 0 l.length, vI i, vI ((i : Int) + 2)] [.row t_api_Value 4 true (l.map Val.cells)] (· = .ret (.arr (.e 1) 0 (i + (l.length - (i + 2)))) [.gone, .row t_api_Value 4 true ((l.take i ++ l.drop (i + 2)).map Val.cells)]) := by
  have := slices_Delete_spec (l.map Val.cells) i (i + 2) (by omega) (by simpa using h) (by simpa using hl)
  simpa [List.map_take, List.map_drop] using this
theorem ins_vals (l : List Val) (i : Nat) (a b : Val) (h : i ≤ l.length) (hl : l.length < 2 ^ 40) :
    J prog f_slices_Insert__api_Value_api_Value [.arr (.e 0) 0 l.length, vI i, .arr (.e 1) 0 2] [.row t_api_Value 4 true (l.map Val.cells), .row t_api_Value 4 true [a.cells, b.cells]]
      (· = .ret (.arr (.e 2) 0 (l.length + 2)) [.gone, .row t_api_Value 4 true [a.cells, b.cells], .row t_api_Value 4 true ((l.take i ++ (a :: b :: l.drop i)).map Val.cells)]) := by
  have := slices_Insert_spec (l.map Val.cells) [a.cells, b.cells] i (by simpa using h) (by simpa using hl) (by simp) (by simp)
  simpa [List.map_take, List.map_drop] using this
def Val.del (v k : Val) : Val × Int :=
  if v.kind = 5 then (if (findL k v.list 0).2 then .mk v.kind v.num v.text (v.list.take (findL k v.list 0).1 ++ v.list.drop ((findL k v.list 0).1 + 2)) else v, 0) else (Val.zero, 40)
theorem value_Del_spec (v k : Val) (hv : v.wt < 2 ^ 40) (hk : k.wt < 2 ^ 40) : Ret prog f_value_Del [v.V, k.V] (.tup [(v.del k).1.V, vI (v.del k).2]) := by
  have hs := v.sizes hv
  have hw := v.wt_eq
  refine J_pure fn_value_Del (by simp) ?_
  simp (config := { contextual := true, maxSteps := 2000000 }) (disch := omega) [-Int.not_lt, -Int.not_le, -Nat.not_lt, -Nat.not_le, elemK_get, wrapI, leT, leF, ltT, ltF, leTn, leFn, ltTn, ltFn, cd_value_Del]
  (repeat' (first | apply And.intro | intro _))
  all_goals first
    | (simp [Val.del, Val.zero, *]; done)
    | skip
  refine callS_obj [] rfl rfl (by simp) ?_
  simp
  refine callJ_ret 14 (value_Copy_own v hv) (by simp) ?_
  simp (config := { contextual := true, maxSteps := 2000000 }) (disch := omega) [-Int.not_lt, -Int.not_le, -Nat.not_lt, -Nat.not_le, elemK_get, wrapI, leT, leF, ltT, ltF, leTn, leFn, ltTn, ltFn]
  refine callS_go ?_; simp; refine callA_of (value_find_spec v k hv hk) (by simp) ?_
  have hf := (findL_lt k v.list 0).2
  cases hb : (findL k v.list 0).2 with
  | false =>
    simp (config := { contextual := true, maxSteps := 2000000 }) (disch := omega) [-Int.not_lt, -Int.not_le, -Nat.not_lt, -Nat.not_le, elemK_get, wrapI, leT, leF, ltT, ltF, leTn, leFn, ltTn, ltFn, hb]
    simp [Val.del, *]
  | true =>
    have hf := hf hb
    simp (config := { contextual := true, maxSteps := 2000000 }) (disch := omega) [-Int.not_lt, -Int.not_le, -Nat.not_lt, -Nat.not_le, elemK_get, wrapI, leT, leF, ltT, ltF, leTn, leFn, ltTn, ltFn, hb]
    refine callS_obj [.l 14 0] rfl rfl (by simp) ?_
    simp
    have hpO := del_vals v.list (findL k v.list 0).1 (by omega) (by omega)
    try simp [VmS.obs, VmS.obs', machObs] at hpO
    refine callJ_ret 27 hpO (by simp) ?_
    clear hpO
    simp (config := { contextual := true, maxSteps := 2000000 }) (disch := omega) [-Int.not_lt, -Int.not_le, -Nat.not_lt, -Nat.not_le, elemK_get, wrapI, leT, leF, ltT, ltF, leTn, leFn, ltTn, ltFn]
    simp [Val.del, *]
    rw [List.take_of_length_le (by simp; omega), Val.cells_eq]
    simp
theorem fold_ins {k n : Int} {t : ByteArray} {l : List Val} {i : Nat} {a b : Val} : ([.c (.int .i64 k), .c (.int .i64 n), .c (.string t), .lst (List.take i (l.map Val.cells) ++ a.cells :: b.cells :: List.drop i (l.map Val.cells))] : List V) = (Val.mk k n t (l.take i ++ (a :: b :: l.drop i))).cells := by
  rw [← Val.fold]; simp only [List.map_append, List.map_take, List.map_cons, List.map_drop]
def Val.put (v k x : Val) : Val × Int :=
  if v.kind = 4 ∧ k.kind = 1 then (if k.num < 0 ∨ (v.list.length : Int) ≤ k.num then (Val.zero, 52) else bounded (.mk v.kind v.num v.text (v.list.set k.num.toNat x)))
  else if v.kind = 5 then
    (if (findL k v.list 0).2 then bounded (.mk v.kind v.num v.text (v.list.set ((findL k v.list 0).1 + 1) x))
      else if (v.list.length : Int) ≥ 128 then (Val.zero, 53) else bounded (.mk v.kind v.num v.text (v.list.take (findL k v.list 0).1 ++ (k :: x :: v.list.drop (findL k v.list 0).1))))
  else (Val.zero, 40)
theorem value_Put_spec (v k x : Val) (hv : v.wt < 2 ^ 40) (hk : k.wt < 2 ^ 40) (hx : x.wt < 2 ^ 40) : Ret prog f_value_Put [v.V, k.V, x.V] (.tup [(v.put k x).1.V, vI (v.put k x).2]) := by
  have hs := v.sizes hv
  have hw := v.wt_eq
  have hb1 : ∀ kd i, (Val.mk kd v.num v.text (v.list.set i x)).wt < 2 ^ 62 := by
    intro kd i
    have := Val.wtL_set v.list i x
    rw [Val.wt_eq]; simp; omega
  have hb2 : ∀ kd i, (Val.mk kd v.num v.text (v.list.take i ++ (k :: x :: v.list.drop i))).wt < 2 ^ 62 := by
    intro kd i
    have := Val.wtL_td v.list i
    rw [Val.wt_eq]; simp [Val.wtL_append, Val.wtL]; omega
  have hf1 := (findL_lt k v.list 0).1
  have hf2 := (findL_lt k v.list 0).2
  refine J_pure fn_value_Put (by simp) ?_
  simp (config := { contextual := true, maxSteps := 2000000 }) (disch := omega) [-Int.not_lt, -Int.not_le, -Nat.not_lt, -Nat.not_le, elemK_get, wrapI, leT, leF, ltT, ltF, leTn, leFn, ltTn, ltFn, cd_value_Put]
  refine callS_obj [] rfl rfl (by simp) ?_
  simp
  refine callJ_ret 12 (value_Copy_own v hv) (by simp) ?_
  simp (config := { contextual := true, maxSteps := 2000000 }) (disch := omega) [-Int.not_lt, -Int.not_le, -Nat.not_lt, -Nat.not_le, elemK_get, wrapI, leT, leF, ltT, ltF, leTn, leFn, ltTn, ltFn]
  (repeat' (first | apply And.intro | intro _))
  all_goals first
    | (simp [Val.put, Val.zero, *]; done)
    | skip
  · refine callN_go ?_; simp; refine callA_of (value_Copy_spec x hx) (by simp) ?_
    simp (config := { contextual := true, maxSteps := 2000000 }) (disch := omega) [-Int.not_lt, -Int.not_le, -Nat.not_lt, -Nat.not_le, elemK_get, wrapI, leT, leF, ltT, ltF, leTn, leFn, ltTn, ltFn]
    refine callS_go ?_; simp; refine callA_of (value_bounded_spec (Val.mk 4 v.num v.text (v.list.set k.num.toNat x)) (hb1 _ _)) (by simp [List.map_set]) ?_
    simp (config := { contextual := true, maxSteps := 2000000 }) (disch := omega) [-Int.not_lt, -Int.not_le, -Nat.not_lt, -Nat.not_le, elemK_get, wrapI, leT, leF, ltT, ltF, leTn, leFn, ltTn, ltFn]
    simp [Val.put, *]
  · refine callS_go ?_; simp; refine callA_of (value_find_spec v k hv hk) (by simp) ?_
    cases hb : (findL k v.list 0).2 with
    | true =>
      have hf2 := hf2 hb
      simp (config := { contextual := true, maxSteps := 2000000 }) (disch := omega) [-Int.not_lt, -Int.not_le, -Nat.not_lt, -Nat.not_le, elemK_get, wrapI, leT, leF, ltT, ltF, leTn, leFn, ltTn, ltFn, hb]
      refine callN_go ?_; simp; refine callA_of (value_Copy_spec x hx) (by simp) ?_
      simp (config := { contextual := true, maxSteps := 2000000 }) (disch := omega) [-Int.not_lt, -Int.not_le, -Nat.not_lt, -Nat.not_le, elemK_get, wrapI, leT, leF, ltT, ltF, leTn, leFn, ltTn, ltFn]
      refine callS_go ?_; simp; refine callA_of (value_bounded_spec (Val.mk 5 v.num v.text (v.list.set ((findL k v.list 0).1 + 1) x)) (hb1 _ _)) (by simp [List.map_set]) ?_
      simp (config := { contextual := true, maxSteps := 2000000 }) (disch := omega) [-Int.not_lt, -Int.not_le, -Nat.not_lt, -Nat.not_le, elemK_get, wrapI, leT, leF, ltT, ltF, leTn, leFn, ltTn, ltFn]
      simp [Val.put, *]
    | false =>
      simp (config := { contextual := true, maxSteps := 2000000 }) (disch := omega) [-Int.not_lt, -Int.not_le, -Nat.not_lt, -Nat.not_le, elemK_get, wrapI, leT, leF, ltT, ltF, leTn, leFn, ltTn, ltFn, hb]
      refine ⟨fun h => ?_, fun h => ?_⟩
      · simp [Val.put, Val.zero, *]
      · refine callN_go ?_; simp; refine callA_of (value_Copy_spec k hk) (by simp) ?_
        simp (config := { contextual := true, maxSteps := 2000000 }) (disch := omega) [-Int.not_lt, -Int.not_le, -Nat.not_lt, -Nat.not_le, elemK_get, wrapI, leT, leF, ltT, ltF, leTn, leFn, ltTn, ltFn]
        refine callN_go ?_; simp; refine callA_of (value_Copy_spec x hx) (by simp) ?_
        simp (config := { contextual := true, maxSteps := 2000000 }) (disch := omega) [-Int.not_lt, -Int.not_le, -Nat.not_lt, -Nat.not_le, elemK_get, wrapI, leT, leF, ltT, ltF, leTn, leFn, ltTn, ltFn]
        refine callS_obj [.l 12 0, .l 59 0] rfl rfl (by simp) ?_
        simp
        have hpO := ins_vals v.list (findL k v.list 0).1 k x (by omega) (by omega)
        try simp [VmS.obs, VmS.obs', machObs] at hpO
        refine callJ_ret 60 hpO (by simp) ?_
        clear hpO
        simp (config := { contextual := true, maxSteps := 2000000 }) (disch := omega) [-Int.not_lt, -Int.not_le, -Nat.not_lt, -Nat.not_le, elemK_get, wrapI, leT, leF, ltT, ltF, leTn, leFn, ltTn, ltFn]
        refine callS_go ?_; simp; refine ⟨by omega, ?_⟩; rw [List.take_of_length_le (by simp; omega)]
        rw [fold_ins]
        refine callA_of (value_bounded_spec (Val.mk 5 v.num v.text (v.list.take (findL k v.list 0).1 ++ (k :: x :: v.list.drop (findL k v.list 0).1))) (hb2 _ _)) (by simp) ?_
        simp (config := { contextual := true, maxSteps := 2000000 }) (disch := omega) [-Int.not_lt, -Int.not_le, -Nat.not_lt, -Nat.not_le, elemK_get, wrapI, leT, leF, ltT, ltF, leTn, leFn, ltTn, ltFn]
        simp [Val.put, *]
end Go.Am
end

section
namespace Go.Am
set_option maxRecDepth 100000
attribute [local irreducible] vc vcIs vcI vcOp vcD vcDp vcDR vcT vcAR stepD stepDp panD neG ne pv J callS callN loopS lookK evK evsK nthK objK boxK rowK boolK intK strK aggK fnK ifcK cellsK cellsLK ldK ldaK iaK srcK stK appK appD isnlD pvK callJ callJD callA
def arith (op a b : Int) : Int × Int :=
  if op = 9 then fitI (a + b) else if op = 10 then fitI (a - b) else if op = 11 then fitI (a * b)
  else if b = 0 then (0, 51) else if op = 13 then (a.tmod b, 0) else if b = -1 ∧ a = -9223372036854775808 then (0, 50) else (a.tdiv b, 0)
theorem sem_arithmetic_ov : Ret prog f_sem_arithmetic [vI 12, vI (-9223372036854775808), vI (-1)] (.tup [vI 0, vI 50]) := by
  refine J_pure fn_sem_arithmetic (by simp) ?_
  have hw : IntKind.i64.wrap 9223372036854775808 = -9223372036854775808 := by decide
  simp (config := { contextual := true, maxSteps := 2000000 }) (disch := omega) [-Int.not_lt, -Int.not_le, -Nat.not_lt, -Nat.not_le, elemK_get, wrapI, leT, leF, ltT, ltF, leTn, leFn, ltTn, ltFn, cd_sem_arithmetic, hw]
theorem sem_arithmetic_spec (op a b : Int) (ho : 9 ≤ op ∧ op ≤ 13) (a1 : -9223372036854775808 ≤ a) (a2 : a < 9223372036854775808) (b1 : -9223372036854775808 ≤ b) (b2 : b < 9223372036854775808) :
    Ret prog f_sem_arithmetic [vI op, vI a, vI b] (.tup [vI (arith op a b).1, vI (arith op a b).2]) := by
  have hop : op = 9 ∨ op = 10 ∨ op = 11 ∨ op = 12 ∨ op = 13 := by omega
  rcases hop with rfl | rfl | rfl | rfl | rfl
  · simpa [arith] using sem_arithmetic_add a b a1 a2 b1 b2
  · simpa [arith] using sem_arithmetic_sub a b a1 a2 b1 b2
  · simpa [arith] using sem_arithmetic_mul a b a1 a2 b1 b2
  · by_cases hb : b = 0
    · subst hb; simpa [arith] using sem_arithmetic_zero 12 a (.inl rfl)
    · by_cases hov : b = -1 ∧ a = -9223372036854775808
      · obtain ⟨rfl, rfl⟩ := hov; simpa [arith] using sem_arithmetic_ov
      · simpa [arith, hb, hov] using sem_arithmetic_div a b a1 a2 b1 b2 hb hov
  · by_cases hb : b = 0
    · subst hb; simpa [arith] using sem_arithmetic_zero 13 a (.inr rfl)
    · simpa [arith, hb] using sem_arithmetic_mod a b a1 a2 b1 b2 hb
def cmpB (op c : Int) : Bool := if op = 5 then decide (c < 0) else if op = 6 then decide (c ≤ 0) else if op = 7 then decide (0 < c) else decide (0 ≤ c)
def Val.bin (op : Int) (a b : Val) : Val × Int :=
  if op = 3 then (Val.bool (a.cmp b == 0), 0) else if op = 4 then (Val.bool (!(a.cmp b == 0)), 0)
  else if a.kind ≠ b.kind ∨ (a.kind ≠ 1 ∧ a.kind ≠ 3) then (Val.zero, 40)
  else if 5 ≤ op ∧ op ≤ 8 then (Val.bool (cmpB op (a.cmp b)), 0)
  else if a.kind = 3 ∧ op = 9 then (if (a.text.size : Int) + b.text.size > 256 then (Val.zero, 53) else (Val.str (a.text ++ b.text), 0))
  else if a.kind = 3 ∨ op < 9 ∨ 13 < op then (Val.zero, 40)
  else if (arith op a.num b.num).2 ≠ 0 then (Val.zero, (arith op a.num b.num).2) else (Val.int (arith op a.num b.num).1, 0)
set_option maxHeartbeats 1000000 in
theorem sem_Binary_spec (op : Int) (a b : Val) (ha : a.wt < 2 ^ 40) (hb : b.wt < 2 ^ 40) (a1 : -9223372036854775808 ≤ a.num) (a2 : a.num < 9223372036854775808) (b1 : -9223372036854775808 ≤ b.num) (b2 : b.num < 9223372036854775808) :
    Ret prog f_sem_Binary [vI op, a.V, b.V] (.tup [(Val.bin op a b).1.V, vI (Val.bin op a b).2]) := by
  have sa := a.sizes ha
  have sb := b.sizes hb
  refine J_pure fn_sem_Binary (by simp) ?_
  by_cases h3 : op = 3
  · subst h3
    simp (config := { contextual := true, maxSteps := 2000000 }) (disch := omega) [-Int.not_lt, -Int.not_le, -Nat.not_lt, -Nat.not_le, elemK_get, wrapI, leT, leF, ltT, ltF, leTn, leFn, ltTn, ltFn, cd_sem_Binary]
    refine callS_go ?_; simp; refine callA_of (value_Compare_spec a b ha hb) (by simp) ?_
    simp (config := { contextual := true, maxSteps := 2000000 }) (disch := omega) [-Int.not_lt, -Int.not_le, -Nat.not_lt, -Nat.not_le, elemK_get, wrapI, leT, leF, ltT, ltF, leTn, leFn, ltTn, ltFn]
    refine callS_go ?_; simp; refine callA_of (value_Bool_spec (a.cmp b == 0)) (by simp) ?_
    simp (config := { contextual := true, maxSteps := 2000000 }) (disch := omega) [-Int.not_lt, -Int.not_le, -Nat.not_lt, -Nat.not_le, elemK_get, wrapI, leT, leF, ltT, ltF, leTn, leFn, ltTn, ltFn, Val.bin]
  by_cases h4 : op = 4
  · subst h4
    simp (config := { contextual := true, maxSteps := 2000000 }) (disch := omega) [-Int.not_lt, -Int.not_le, -Nat.not_lt, -Nat.not_le, elemK_get, wrapI, leT, leF, ltT, ltF, leTn, leFn, ltTn, ltFn, cd_sem_Binary]
    refine callS_go ?_; simp; refine callA_of (value_Compare_spec a b ha hb) (by simp) ?_
    simp (config := { contextual := true, maxSteps := 2000000 }) (disch := omega) [-Int.not_lt, -Int.not_le, -Nat.not_lt, -Nat.not_le, elemK_get, wrapI, leT, leF, ltT, ltF, leTn, leFn, ltTn, ltFn]
    refine callS_go ?_; simp; refine callA_of (value_Bool_spec (!(a.cmp b == 0))) (by simp) ?_
    simp (config := { contextual := true, maxSteps := 2000000 }) (disch := omega) [-Int.not_lt, -Int.not_le, -Nat.not_lt, -Nat.not_le, elemK_get, wrapI, leT, leF, ltT, ltF, leTn, leFn, ltTn, ltFn, Val.bin]
  by_cases hk : a.kind = b.kind ∧ (a.kind = 1 ∨ a.kind = 3)
  rotate_left
  · have e : Val.bin op a b = (Val.zero, 40) := by
      unfold Val.bin
      rw [if_neg h3, if_neg h4, if_pos]
      omega
    rw [e]
    by_cases hkk : a.kind = b.kind
    · have h5 : ¬ b.kind = 1 := by omega
      have h6 : ¬ b.kind = 3 := by omega
      simp (config := { contextual := true, maxSteps := 2000000 }) (disch := omega) [-Int.not_lt, -Int.not_le, -Nat.not_lt, -Nat.not_le, elemK_get, wrapI, leT, leF, ltT, ltF, leTn, leFn, ltTn, ltFn, cd_sem_Binary, h3, h4, hkk, h5, h6, Val.zero]
    · simp (config := { contextual := true, maxSteps := 2000000 }) (disch := omega) [-Int.not_lt, -Int.not_le, -Nat.not_lt, -Nat.not_le, elemK_get, wrapI, leT, leF, ltT, ltF, leTn, leFn, ltTn, ltFn, cd_sem_Binary, h3, h4, hkk, Val.zero]
  obtain ⟨hkk, hk⟩ := hk
  by_cases h5 : 5 ≤ op ∧ op ≤ 8
  · have hop : op = 5 ∨ op = 6 ∨ op = 7 ∨ op = 8 := by omega
    rcases hk with hk | hk <;> rw [hk] at hkk <;> rcases hop with rfl | rfl | rfl | rfl <;>
      (simp (config := { contextual := true, maxSteps := 2000000 }) (disch := omega) [-Int.not_lt, -Int.not_le, -Nat.not_lt, -Nat.not_le, elemK_get, wrapI, leT, leF, ltT, ltF, leTn, leFn, ltTn, ltFn, cd_sem_Binary, hk, ← hkk]
       refine callS_go ?_; simp; refine callA_of (value_Compare_spec a b ha hb) (by simp) ?_
       simp (config := { contextual := true, maxSteps := 2000000 }) (disch := omega) [-Int.not_lt, -Int.not_le, -Nat.not_lt, -Nat.not_le, elemK_get, wrapI, leT, leF, ltT, ltF, leTn, leFn, ltTn, ltFn]
       refine callS_go ?_; simp; refine callA_of (value_Bool_spec _) (by simp) ?_
       simp (config := { contextual := true, maxSteps := 2000000 }) (disch := omega) [-Int.not_lt, -Int.not_le, -Nat.not_lt, -Nat.not_le, elemK_get, wrapI, leT, leF, ltT, ltF, leTn, leFn, ltTn, ltFn, Val.bin, cmpB, hk, ← hkk])
  by_cases hk3 : a.kind = 3
  · have hk3' : b.kind = 3 := by omega
    by_cases h9 : op = 9
    · subst h9
      by_cases hs : (a.text.size : Int) + b.text.size > 256
      · simp (config := { contextual := true, maxSteps := 2000000 }) (disch := omega) [-Int.not_lt, -Int.not_le, -Nat.not_lt, -Nat.not_le, elemK_get, wrapI, leT, leF, ltT, ltF, leTn, leFn, ltTn, ltFn, cd_sem_Binary, hk3, hk3', Val.bin, Val.zero, hs]
      · simp (config := { contextual := true, maxSteps := 2000000 }) (disch := omega) [-Int.not_lt, -Int.not_le, -Nat.not_lt, -Nat.not_le, elemK_get, wrapI, leT, leF, ltT, ltF, leTn, leFn, ltTn, ltFn, cd_sem_Binary, hk3, hk3', hs]
        refine callS_go ?_; simp; refine callA_of (value_Text_spec (a.text ++ b.text)) (by simp) ?_
        simp (config := { contextual := true, maxSteps := 2000000 }) (disch := omega) [-Int.not_lt, -Int.not_le, -Nat.not_lt, -Nat.not_le, elemK_get, wrapI, leT, leF, ltT, ltF, leTn, leFn, ltTn, ltFn, Val.bin, hk3, hk3', hs]
    · have e : Val.bin op a b = (Val.zero, 40) := by
        unfold Val.bin
        rw [if_neg h3, if_neg h4, if_neg (by omega), if_neg h5, if_neg (by omega), if_pos (by omega)]
      rw [e]
      have h56 : ¬ (5 ≤ op) ∨ ¬ (op ≤ 8) := by omega
      rcases h56 with h56 | h56 <;> simp (config := { contextual := true, maxSteps := 2000000 }) (disch := omega) [-Int.not_lt, -Int.not_le, -Nat.not_lt, -Nat.not_le, elemK_get, wrapI, leT, leF, ltT, ltF, leTn, leFn, ltTn, ltFn, cd_sem_Binary, h3, h4, hk3, hk3', h9, h56, Val.zero]
  · have hk1 : a.kind = 1 := by omega
    have hk1' : b.kind = 1 := by omega
    by_cases hlo : op < 9
    · have e : Val.bin op a b = (Val.zero, 40) := by
        unfold Val.bin
        rw [if_neg h3, if_neg h4, if_neg (by omega), if_neg h5, if_neg (by omega), if_pos (by omega)]
      rw [e]
      have h56 : ¬ (5 ≤ op) := by omega
      simp (config := { contextual := true, maxSteps := 2000000 }) (disch := omega) [-Int.not_lt, -Int.not_le, -Nat.not_lt, -Nat.not_le, elemK_get, wrapI, leT, leF, ltT, ltF, leTn, leFn, ltTn, ltFn, cd_sem_Binary, h3, h4, hk1, hk1', hlo, h56, Val.zero]
    · by_cases hhi : 13 < op
      · have e : Val.bin op a b = (Val.zero, 40) := by
          unfold Val.bin
          rw [if_neg h3, if_neg h4, if_neg (by omega), if_neg h5, if_neg (by omega), if_pos (by omega)]
        rw [e]
        have h56 : ¬ (op ≤ 8) := by omega
        simp (config := { contextual := true, maxSteps := 2000000 }) (disch := omega) [-Int.not_lt, -Int.not_le, -Nat.not_lt, -Nat.not_le, elemK_get, wrapI, leT, leF, ltT, ltF, leTn, leFn, ltTn, ltFn, cd_sem_Binary, h3, h4, hk1, hk1', hlo, hhi, h56, Val.zero]
      · have e : Val.bin op a b = if (arith op a.num b.num).2 ≠ 0 then (Val.zero, (arith op a.num b.num).2) else (Val.int (arith op a.num b.num).1, 0) := by
          unfold Val.bin
          rw [if_neg h3, if_neg h4, if_neg (by omega), if_neg h5, if_neg (by omega), if_neg (by omega)]
        rw [e]
        have h56 : ¬ (op ≤ 8) := by omega
        simp (config := { contextual := true, maxSteps := 2000000 }) (disch := omega) [-Int.not_lt, -Int.not_le, -Nat.not_lt, -Nat.not_le, elemK_get, wrapI, leT, leF, ltT, ltF, leTn, leFn, ltTn, ltFn, cd_sem_Binary, h3, h4, hk1, hk1', hlo, hhi, h56]
        refine callS_go ?_; simp; refine callA_of (sem_arithmetic_spec op a.num b.num (by omega) a1 a2 b1 b2) (by simp) ?_
        by_cases hz : (arith op a.num b.num).2 = 0
        · simp (config := { contextual := true, maxSteps := 2000000 }) (disch := omega) [-Int.not_lt, -Int.not_le, -Nat.not_lt, -Nat.not_le, elemK_get, wrapI, leT, leF, ltT, ltF, leTn, leFn, ltTn, ltFn, hz]
          refine callS_go ?_; simp; refine callA_of (value_Int_spec (arith op a.num b.num).1) (by simp) ?_
          simp (config := { contextual := true, maxSteps := 2000000 }) (disch := omega) [-Int.not_lt, -Int.not_le, -Nat.not_lt, -Nat.not_le, elemK_get, wrapI, leT, leF, ltT, ltF, leTn, leFn, ltTn, ltFn, hz]
        · simp (config := { contextual := true, maxSteps := 2000000 }) (disch := omega) [-Int.not_lt, -Int.not_le, -Nat.not_lt, -Nat.not_le, elemK_get, wrapI, leT, leF, ltT, ltF, leTn, leFn, ltTn, ltFn, hz, Val.zero]
end Go.Am
end

section
namespace Go.Proofs
open Go.Shelf
def Tryz.lays246_ren : Go.Shelf.Ren := ⟨fun | 246 => 139 | 283 => 143 | 284 => 144 | 285 => 145 | 286 => 146 | 129 => 151 | 317 => 150 | 318 => 152 | 319 => 153 | 320 => 154 | 337 => 159 | 338 => 160 | n => n, fun | 2 => 2 | 3 => 3 | 9 => 9 | 4 => 4 | 171 => 135 | 0 => 0 | 53 => 136 | 37 => 139 | 5 => 5 | 173 => 140 | 212 => 145 | 51 => 146 | 20 => 20 | 213 => 147 | 46 => 148 | 232 => 154 | 233 => 155 | n => n, fun | 17 => 1 | 18 => 2 | 19 => 3 | n => n⟩
theorem Tryz.lays246 : Go.Proofs.LaysM.n246 Tryz.prog Tryz.lays246_ren := {
  mixed := by kernel_rfl
  f129 := Tryz.func151.trans (congrArg some (by kernel_rfl))
  f246 := Tryz.func139.trans (congrArg some (by kernel_rfl))
  f283 := Tryz.func143.trans (congrArg some (by kernel_rfl))
  f284 := Tryz.func144.trans (congrArg some (by kernel_rfl))
  f285 := Tryz.func145.trans (congrArg some (by kernel_rfl))
  f286 := Tryz.func146.trans (congrArg some (by kernel_rfl))
  f317 := Tryz.func150.trans (congrArg some (by kernel_rfl))
  f318 := Tryz.func152.trans (congrArg some (by kernel_rfl))
  f319 := Tryz.func153.trans (congrArg some (by kernel_rfl))
  f320 := Tryz.func154.trans (congrArg some (by kernel_rfl))
  f337 := Tryz.func159.trans (congrArg some (by kernel_rfl))
  f338 := Tryz.func160.trans (congrArg some (by kernel_rfl))
  t0 := Tryz.underlying0
  a0 := Tryz.isAgg0
  z0 := Tryz.sizeOf0
  v0 := Tryz.zeroValue0
  t2 := Tryz.underlying2
  a2 := Tryz.isAgg2
  z2 := Tryz.sizeOf2
  v2 := Tryz.zeroValue2
  t3 := Tryz.underlying3
  a3 := Tryz.isAgg3
  z3 := Tryz.sizeOf3
  v3 := Tryz.zeroValue3
  t4 := Tryz.underlying4
  a4 := Tryz.isAgg4
  z4 := Tryz.sizeOf4
  v4 := Tryz.zeroValue4
  t5 := Tryz.underlying5
  a5 := Tryz.isAgg5
  z5 := Tryz.sizeOf5
  v5 := Tryz.zeroValue5
  t9 := Tryz.underlying9
  a9 := Tryz.isAgg9
  z9 := Tryz.sizeOf9
  v9 := Tryz.zeroValue9
  t20 := Tryz.underlying20
  a20 := Tryz.isAgg20
  z20 := Tryz.sizeOf20
  v20 := Tryz.zeroValue20
  t37 := Tryz.underlying139
  a37 := Tryz.isAgg139
  z37 := Tryz.sizeOf139
  v37 := Tryz.zeroValue139
  t46 := Tryz.underlying148
  a46 := Tryz.isAgg148
  z46 := Tryz.sizeOf148
  v46 := Tryz.zeroValue148
  t51 := Tryz.underlying146
  a51 := Tryz.isAgg146
  z51 := Tryz.sizeOf146
  v51 := Tryz.zeroValue146
  t53 := Tryz.underlying136
  a53 := Tryz.isAgg136
  z53 := Tryz.sizeOf136
  v53 := Tryz.zeroValue136
  t171 := Tryz.underlying135
  a171 := Tryz.isAgg135
  z171 := Tryz.sizeOf135
  v171 := Tryz.zeroValue135
  t173 := Tryz.underlying140
  a173 := Tryz.isAgg140
  z173 := Tryz.sizeOf140
  v173 := Tryz.zeroValue140
  t212 := Tryz.underlying145
  a212 := Tryz.isAgg145
  z212 := Tryz.sizeOf145
  v212 := Tryz.zeroValue145
  t213 := Tryz.underlying147
  a213 := Tryz.isAgg147
  z213 := Tryz.sizeOf147
  t232 := Tryz.underlying154
  a232 := Tryz.isAgg154
  z232 := Tryz.sizeOf154
  v232 := Tryz.zeroValue154
  t233 := Tryz.underlying155
  a233 := Tryz.isAgg155
  z233 := Tryz.sizeOf155
  v233 := Tryz.zeroValue155
  g17 := by kernel_rfl
  g18 := by kernel_rfl
  g19 := by kernel_rfl
  i0 := by kernel_rfl
  i2 := by kernel_rfl
  i3 := by kernel_rfl
  i4 := by kernel_rfl
  i5 := by kernel_rfl
  i9 := by kernel_rfl
  i20 := by kernel_rfl
  i37 := by kernel_rfl
  i46 := by kernel_rfl
  i51 := by kernel_rfl
  i53 := by kernel_rfl
  i171 := by kernel_rfl
  i173 := by kernel_rfl
  i212 := by kernel_rfl
  i232 := by kernel_rfl
  i233 := by kernel_rfl
  m17 := by kernel_rfl
  m18 := by kernel_rfl
  m19 := by kernel_rfl }
end Go.Proofs
end

section
namespace Go.Am
variable {P : Program}
theorem J_calls {f : FuncId} {fn : Func} {c : Code} {args : List V} {vs : Array Value} {v : V} {x : Value} (hf : P.funcs[f]? = some fn) (hn : (fn.name == "runtime.NumGoroutine") = false) (hb : fn.body = some c)
    (hargs : ∀ H μ us, RL H μ args us → us = vs) (hx : ∀ H μ, R H μ v x)
    (hc : ∀ w, (∀ p ∈ laidT, ∃ ty fz, w.heap[p.1]? = some (.cells p.2 ty fz)) → Calls P f vs w fun e w' => e = .returned x ∧ ∃ k os, w' = Sort.grow (w.drewN k) os) : Ret P f args v := by
  intro H μ us w h3 hW
  have := hargs H μ us h3
  subst this
  have hn' : ¬ fn.name = "runtime.NumGoroutine" := by simpa using hn
  have hrun : (callFunc f us).run P w = .ok (.enter f us) w := by simp [callFunc, hf, hn', hb]
  unfold Called
  rw [hrun]
  have hl : ∀ p ∈ laidT, ∃ ty fz, w.heap[p.1]? = some (.cells p.2 ty fz) := fun p hp => hW.imm _ _ (hW.glo p hp)
  refine Calls.mono (hc w hl) ?_
  rintro e w' ⟨rfl, k, os, rfl⟩
  have hheap : ∀ b, b < w.heap.size → (Sort.grow (w.drewN k) os).heap[b]? = w.heap[b]? := by
    intro b hb
    show (w.heap ++ os)[b]? = w.heap[b]?
    rw [Array.getElem?_append_left hb]
  have hno : ∀ b, ¬ Owns (hpE 0 []) μ b := by rintro b ⟨i, o, blk, h, _⟩; simp [hpE] at h
  refine ⟨_, H, μ, rfl, ⟨x, rfl, hx H μ⟩, ⟨Imm.le_refl H, rfl, rfl, rfl, ?_, fun b hb _ => hheap b hb, fun b h _ => h, fr0⟩, ⟨fun i o hl => by simp [hpE] at hl, fun i j oi oj bi bj hi => by simp [hpE] at hi, fun b cs h => ?_, hW.glo⟩, Nat.le_refl _, fun j o hj => by simp at hj⟩
  · show w.heap.size ≤ (w.heap ++ os).size
    simp
  · obtain ⟨ty, fz, h1⟩ := hW.imm b cs h
    exact ⟨ty, fz, by rw [hheap b (Array.getElem?_eq_some_iff.1 h1).1]; exact h1⟩
theorem laidTab_of {w : World} {name : String} (hg : P.globalNamed name = some 1) (hl : ∀ p ∈ laidT, ∃ ty fz, w.heap[p.1]? = some (.cells p.2 ty fz)) : Lib.TabIs P w name .u64 Lib.pow10Tab := by
  obtain ⟨ty, fz, h⟩ := hl _ (List.mem_singleton.2 rfl)
  unfold Lib.TabIs World.var?
  rw [hg]
  simp only [Option.bind_some]
  rw [h]
  rfl
end Go.Am
end

section
namespace Go.Am
set_option maxRecDepth 100000
attribute [local irreducible] vc vcIs vcI vcOp vcD vcDp vcDR vcT vcAR stepD stepDp panD neG ne pv J callS callN loopS lookK evK evsK nthK objK boxK rowK boolK intK strK aggK fnK ifcK cellsK cellsLK ldK ldaK iaK srcK stK appK appD isnlD pvK callJ callJD callA
def itoaB (n : Int) : ByteArray := ⟨(Lib.itoa n).toArray⟩
theorem FormatInt_spec (n : Int) (h0 : -9223372036854775808 ≤ n) (h1 : n < 9223372036854775808) : Ret prog f_internal_strconv_FormatInt [vI n, vI 10] (vS (itoaB n)) := by
  obtain ⟨c, hc⟩ : ∃ c, Go.Proofs.Tryz.f139.body = some c := ⟨_, rfl⟩
  exact J_calls (fn := Go.Proofs.Tryz.f139) (c := c) (vs := #[.int .i64 n, .int .i64 10]) (x := .string (itoaB n)) Go.Proofs.Tryz.func139 (by kernel_rfl) hc (fun H μ us h => h.two) (fun H μ => .c _)
    fun w hl => Go.Proofs.Any.internal_strconv_FormatInt_10 Go.Proofs.Tryz.lays246 n h0 (by omega) w (laidTab_of (by kernel_rfl) hl)
theorem internal_Itoa_spec (n : Int) (h0 : -9223372036854775808 ≤ n) (h1 : n < 9223372036854775808) : Ret prog f_internal_strconv_Itoa [vI n] (vS (itoaB n)) := by
  refine J_pure fn_internal_strconv_Itoa (by simp) ?_
  simp (config := { contextual := true, maxSteps := 2000000 }) (disch := omega) [-Int.not_lt, -Int.not_le, -Nat.not_lt, -Nat.not_le, elemK_get, wrapI, leT, leF, ltT, ltF, leTn, leFn, ltTn, ltFn, cd_internal_strconv_Itoa]
  refine callS_go ?_; simp; refine callA_of (FormatInt_spec n h0 h1) (by simp) ?_
  simp (config := { contextual := true, maxSteps := 2000000 }) (disch := omega) [-Int.not_lt, -Int.not_le, -Nat.not_lt, -Nat.not_le, elemK_get, wrapI, leT, leF, ltT, ltF, leTn, leFn, ltTn, ltFn]
theorem strconv_Itoa_spec (n : Int) (h0 : -9223372036854775808 ≤ n) (h1 : n < 9223372036854775808) : Ret prog f_strconv_Itoa [vI n] (vS (itoaB n)) := by
  refine J_pure fn_strconv_Itoa (by simp) ?_
  simp (config := { contextual := true, maxSteps := 2000000 }) (disch := omega) [-Int.not_lt, -Int.not_le, -Nat.not_lt, -Nat.not_le, elemK_get, wrapI, leT, leF, ltT, ltF, leTn, leFn, ltTn, ltFn, cd_strconv_Itoa]
  refine callS_go ?_; simp; refine callA_of (internal_Itoa_spec n h0 h1) (by simp) ?_
  simp (config := { contextual := true, maxSteps := 2000000 }) (disch := omega) [-Int.not_lt, -Int.not_le, -Nat.not_lt, -Nat.not_le, elemK_get, wrapI, leT, leF, ltT, ltF, leTn, leFn, ltTn, ltFn]
def Val.strv (v : Val) : Val × Int := if v.kind ≠ 1 then (Val.zero, 40) else (Val.str (itoaB v.num), 0)
theorem sem_Str_spec (v : Val) (h0 : -9223372036854775808 ≤ v.num) (h1 : v.num < 9223372036854775808) : Ret prog f_sem_Str [v.V] (.tup [v.strv.1.V, vI v.strv.2]) := by
  refine J_pure fn_sem_Str (by simp) ?_
  by_cases hk : v.kind = 1
  · simp (config := { contextual := true, maxSteps := 2000000 }) (disch := omega) [-Int.not_lt, -Int.not_le, -Nat.not_lt, -Nat.not_le, elemK_get, wrapI, leT, leF, ltT, ltF, leTn, leFn, ltTn, ltFn, cd_sem_Str, hk]
    refine callS_go ?_; simp; refine callA_of (strconv_Itoa_spec v.num h0 h1) (by simp) ?_
    simp (config := { contextual := true, maxSteps := 2000000 }) (disch := omega) [-Int.not_lt, -Int.not_le, -Nat.not_lt, -Nat.not_le, elemK_get, wrapI, leT, leF, ltT, ltF, leTn, leFn, ltTn, ltFn]
    refine callS_go ?_; simp; refine callA_of (value_Text_spec (itoaB v.num)) (by simp) ?_
    simp (config := { contextual := true, maxSteps := 2000000 }) (disch := omega) [-Int.not_lt, -Int.not_le, -Nat.not_lt, -Nat.not_le, elemK_get, wrapI, leT, leF, ltT, ltF, leTn, leFn, ltTn, ltFn, Val.strv, hk]
  · simp (config := { contextual := true, maxSteps := 2000000 }) (disch := omega) [-Int.not_lt, -Int.not_le, -Nat.not_lt, -Nat.not_le, elemK_get, wrapI, leT, leF, ltT, ltF, leTn, leFn, ltTn, ltFn, cd_sem_Str, Val.strv, Val.zero, hk]
end Go.Am
end

section
namespace Go.Am
set_option maxRecDepth 100000
attribute [local irreducible] vc vcIs vcI vcOp vcD vcDp vcDR vcT vcAR stepD stepDp panD neG ne pv J callS callN loopS lookK evK evsK nthK objK boxK rowK boolK intK strK aggK fnK ifcK cellsK cellsLK ldK ldaK iaK srcK stK appK appD isnlD pvK callJ callJD callA
abbrev litS (l : List UInt8) : ByteArray := ⟨⟨l⟩⟩
theorem eqS_lit (a b : List UInt8) : eqS (litS a) (litS b) = decide (a = b) := by
  unfold eqS
  rw [Bool.eq_iff_iff]
  simp
theorem size_lit (a : List UInt8) : (litS a).size = a.length := rfl
theorem ext_lit (a : List UInt8) (i j : Nat) : (litS a).extract i j = litS ((a.drop i).take (j - i)) := by
  apply ByteArray.ext
  simp
abbrev tInt : ByteArray := litS [105, 110, 116]
abbrev tBool : ByteArray := litS [98, 111, 111, 108]
abbrev tText : ByteArray := litS [116, 101, 120, 116]
abbrev tList : ByteArray := litS [91, 105, 110, 116, 93]
abbrev tMap : ByteArray := litS [123, 105, 110, 116, 58, 105, 110, 116, 125]
theorem show_kind_plain (d : Int) (hd : d ≤ 4) (s : ByteArray) (hs : s = tInt ∨ s = tBool ∨ s = tText) : Ret prog f_show_kind [vS s, vI d] (vB true) := by
  refine J_pure fn_show_kind (by simp) ?_
  rcases hs with rfl | rfl | rfl <;> simp (config := { contextual := true, maxSteps := 2000000 }) (disch := omega) [-Int.not_lt, -Int.not_le, -Nat.not_lt, -Nat.not_le, elemK_get, wrapI, leT, leF, ltT, ltF, leTn, leFn, ltTn, ltFn, cd_show_kind, eqS_lit]
theorem HasPrefix_lit (s p : List UInt8) (hs : s.length < 2 ^ 40) (hp : p.length < 2 ^ 40) : Ret prog f_internal_stringslite_HasPrefix [vS (litS s), vS (litS p)] (vB (decide (s.take p.length = p))) := by
  refine J_pure fn_internal_stringslite_HasPrefix (by simp) ?_
  simp (config := { contextual := true, maxSteps := 2000000 }) (disch := omega) [-Int.not_lt, -Int.not_le, -Nat.not_lt, -Nat.not_le, elemK_get, wrapI, leT, leF, ltT, ltF, leTn, leFn, ltTn, ltFn, cd_internal_stringslite_HasPrefix, size_lit, ext_lit, eqS_lit]
  intro h e
  apply h
  rw [← e]
  simp
  omega
theorem CutPrefix_lit1 (s p : List UInt8) (hs : s.length < 2 ^ 40) (hp : p.length < 2 ^ 40) (r : List UInt8) (b : Bool) (hb : b = decide (s.take p.length = p))
    (hr : r = if b then s.drop p.length else s) : Ret prog f_internal_stringslite_CutPrefix [vS (litS s), vS (litS p)] (.tup [vS (litS r), vB b]) := by
  refine J_pure fn_internal_stringslite_CutPrefix (by simp) ?_
  simp (config := { contextual := true, maxSteps := 2000000 }) (disch := omega) [-Int.not_lt, -Int.not_le, -Nat.not_lt, -Nat.not_le, elemK_get, wrapI, leT, leF, ltT, ltF, leTn, leFn, ltTn, ltFn, cd_internal_stringslite_CutPrefix]
  refine callS_go ?_; simp; refine callA_of (HasPrefix_lit s p hs hp) (by simp) ?_
  rw [← hb]
  cases b
  · simp (config := { contextual := true, maxSteps := 2000000 }) (disch := omega) [-Int.not_lt, -Int.not_le, -Nat.not_lt, -Nat.not_le, elemK_get, wrapI, leT, leF, ltT, ltF, leTn, leFn, ltTn, ltFn, hr]
  · have hl : p.length ≤ s.length := by
      have := of_decide_eq_true hb.symm
      have h2 := congrArg List.length this
      simp at h2
      omega
    simp (config := { contextual := true, maxSteps := 2000000 }) (disch := omega) [-Int.not_lt, -Int.not_le, -Nat.not_lt, -Nat.not_le, elemK_get, wrapI, leT, leF, ltT, ltF, leTn, leFn, ltTn, ltFn, hr, size_lit, ext_lit]
    apply List.take_of_length_le
    simp
theorem CutPrefix_lit (s p : List UInt8) (hs : s.length < 2 ^ 40) (hp : p.length < 2 ^ 40) (r : List UInt8) (b : Bool) (hb : b = decide (s.take p.length = p))
    (hr : r = if b then s.drop p.length else s) : Ret prog f_strings_CutPrefix [vS (litS s), vS (litS p)] (.tup [vS (litS r), vB b]) := by
  refine J_pure fn_strings_CutPrefix (by simp) ?_
  simp (config := { contextual := true, maxSteps := 2000000 }) (disch := omega) [-Int.not_lt, -Int.not_le, -Nat.not_lt, -Nat.not_le, elemK_get, wrapI, leT, leF, ltT, ltF, leTn, leFn, ltTn, ltFn, cd_strings_CutPrefix]
  refine callS_go ?_; simp; refine callA_of (CutPrefix_lit1 s p hs hp r b hb hr) (by simp) ?_
  simp (config := { contextual := true, maxSteps := 2000000 }) (disch := omega) [-Int.not_lt, -Int.not_le, -Nat.not_lt, -Nat.not_le, elemK_get, wrapI, leT, leF, ltT, ltF, leTn, leFn, ltTn, ltFn]
theorem show_kind_list (d : Int) (h0 : 0 ≤ d) (hd : d < 4) : Ret prog f_show_kind [vS tList, vI d] (vB true) := by
  refine J_pure fn_show_kind (by simp) ?_
  simp (config := { contextual := true, maxSteps := 2000000 }) (disch := omega) [-Int.not_lt, -Int.not_le, -Nat.not_lt, -Nat.not_le, elemK_get, wrapI, leT, leF, ltT, ltF, leTn, leFn, ltTn, ltFn, cd_show_kind, eqS_lit, size_lit, ext_lit]
  refine callS_go ?_; simp; refine callA_of (CutPrefix_lit [91, 105, 110, 116] [91] (by decide) (by decide) [105, 110, 116] true (by decide) (by decide)) (by simp) ?_
  simp (config := { contextual := true, maxSteps := 2000000 }) (disch := omega) [-Int.not_lt, -Int.not_le, -Nat.not_lt, -Nat.not_le, elemK_get, wrapI, leT, leF, ltT, ltF, leTn, leFn, ltTn, ltFn, size_lit]
  refine callS_go ?_; simp; refine callA_of (show_kind_plain (d + 1) (by omega) tInt (.inl rfl)) (by simp) ?_
  simp (config := { contextual := true, maxSteps := 2000000 }) (disch := omega) [-Int.not_lt, -Int.not_le, -Nat.not_lt, -Nat.not_le, elemK_get, wrapI, leT, leF, ltT, ltF, leTn, leFn, ltTn, ltFn]
theorem show_kind_map (d : Int) (h0 : 0 ≤ d) (hd : d < 4) : Ret prog f_show_kind [vS tMap, vI d] (vB true) := by
  refine J_pure fn_show_kind (by simp) ?_
  simp (config := { contextual := true, maxSteps := 2000000 }) (disch := omega) [-Int.not_lt, -Int.not_le, -Nat.not_lt, -Nat.not_le, elemK_get, wrapI, leT, leF, ltT, ltF, leTn, leFn, ltTn, ltFn, cd_show_kind, eqS_lit, size_lit, ext_lit]
  refine callS_go ?_; simp; refine callA_of (CutPrefix_lit [123, 105, 110, 116, 58, 105, 110, 116] [91] (by decide) (by decide) [123, 105, 110, 116, 58, 105, 110, 116] false (by decide) (by decide)) (by simp) ?_
  simp (config := { contextual := true, maxSteps := 2000000 }) (disch := omega) [-Int.not_lt, -Int.not_le, -Nat.not_lt, -Nat.not_le, elemK_get, wrapI, leT, leF, ltT, ltF, leTn, leFn, ltTn, ltFn, size_lit]
  refine loopS_for 0 (fun _ => [(49, vI 0), (48, vI 2), (47, .arr (.l 47 0) 0 2), (0, vS tMap), (1, vI d)]) (fun _ => [(.l 47 0, .row 9 1 true [[vS (litS [123, 105, 110, 116, 58])], [vS (litS [123, 116, 101, 120, 116, 58])]])]) (Wk.subs (by simp) (by simp)) ?_
  intro i hi
  simp (config := { contextual := true, maxSteps := 2000000 }) (disch := omega) [-Int.not_lt, -Int.not_le, -Nat.not_lt, -Nat.not_le, elemK_get, wrapI, leT, leF, ltT, ltF, leTn, leFn, ltTn, ltFn, size_lit, ext_lit]
  refine elemK_of rfl ?_
  simp (config := { contextual := true, maxSteps := 2000000 }) (disch := omega) [-Int.not_lt, -Int.not_le, -Nat.not_lt, -Nat.not_le, elemK_get, wrapI, leT, leF, ltT, ltF, leTn, leFn, ltTn, ltFn, size_lit, ext_lit]
  refine callS_go ?_; simp; refine callA_of (CutPrefix_lit [123, 105, 110, 116, 58, 105, 110, 116] [123, 105, 110, 116, 58] (by decide) (by decide) [105, 110, 116] true (by decide) (by decide)) (by simp) ?_
  simp (config := { contextual := true, maxSteps := 2000000 }) (disch := omega) [-Int.not_lt, -Int.not_le, -Nat.not_lt, -Nat.not_le, elemK_get, wrapI, leT, leF, ltT, ltF, leTn, leFn, ltTn, ltFn, size_lit]
  refine callS_go ?_; simp; refine callA_of (show_kind_plain (d + 1) (by omega) tInt (.inl rfl)) (by simp) ?_
  simp (config := { contextual := true, maxSteps := 2000000 }) (disch := omega) [-Int.not_lt, -Int.not_le, -Nat.not_lt, -Nat.not_le, elemK_get, wrapI, leT, leF, ltT, ltF, leTn, leFn, ltTn, ltFn]
def tyK : List (List UInt8) := [[105, 110, 116], [98, 111, 111, 108], [116, 101, 120, 116], [91, 105, 110, 116, 93], [123, 105, 110, 116, 58, 105, 110, 116, 125]]
theorem show_Type_lit (t : List UInt8) (h : t ∈ tyK) : Ret prog f_show_Type [vS (litS t)] (vB true) := by
  refine J_pure fn_show_Type (by simp) ?_
  simp (config := { contextual := true, maxSteps := 2000000 }) (disch := omega) [-Int.not_lt, -Int.not_le, -Nat.not_lt, -Nat.not_le, elemK_get, wrapI, leT, leF, ltT, ltF, leTn, leFn, ltTn, ltFn, cd_show_Type]
  simp [tyK] at h
  rcases h with rfl | rfl | rfl | rfl | rfl
  · refine callS_go ?_; simp; refine callA_of (show_kind_plain 1 (by omega) tInt (.inl rfl)) (by simp) ?_
    simp (config := { contextual := true, maxSteps := 2000000 }) (disch := omega) [-Int.not_lt, -Int.not_le, -Nat.not_lt, -Nat.not_le, elemK_get, wrapI, leT, leF, ltT, ltF, leTn, leFn, ltTn, ltFn]
  · refine callS_go ?_; simp; refine callA_of (show_kind_plain 1 (by omega) tBool (.inr (.inl rfl))) (by simp) ?_
    simp (config := { contextual := true, maxSteps := 2000000 }) (disch := omega) [-Int.not_lt, -Int.not_le, -Nat.not_lt, -Nat.not_le, elemK_get, wrapI, leT, leF, ltT, ltF, leTn, leFn, ltTn, ltFn]
  · refine callS_go ?_; simp; refine callA_of (show_kind_plain 1 (by omega) tText (.inr (.inr rfl))) (by simp) ?_
    simp (config := { contextual := true, maxSteps := 2000000 }) (disch := omega) [-Int.not_lt, -Int.not_le, -Nat.not_lt, -Nat.not_le, elemK_get, wrapI, leT, leF, ltT, ltF, leTn, leFn, ltTn, ltFn]
  · refine callS_go ?_; simp; refine callA_of (show_kind_list 1 (by omega) (by omega)) (by simp) ?_
    simp (config := { contextual := true, maxSteps := 2000000 }) (disch := omega) [-Int.not_lt, -Int.not_le, -Nat.not_lt, -Nat.not_le, elemK_get, wrapI, leT, leF, ltT, ltF, leTn, leFn, ltTn, ltFn]
  · refine callS_go ?_; simp; refine callA_of (show_kind_map 1 (by omega) (by omega)) (by simp) ?_
    simp (config := { contextual := true, maxSteps := 2000000 }) (disch := omega) [-Int.not_lt, -Int.not_le, -Nat.not_lt, -Nat.not_le, elemK_get, wrapI, leT, leF, ltT, ltF, leTn, leFn, ltTn, ltFn]
theorem value_List_list : Ret prog f_value_List [vS tList] (.tup [vS tInt, vB true]) := by
  refine J_pure fn_value_List (by simp) ?_
  simp (config := { contextual := true, maxSteps := 2000000 }) (disch := omega) [-Int.not_lt, -Int.not_le, -Nat.not_lt, -Nat.not_le, elemK_get, wrapI, leT, leF, ltT, ltF, leTn, leFn, ltTn, ltFn, cd_value_List]
  refine callS_go ?_; simp; refine callA_of (show_Type_lit [91, 105, 110, 116, 93] (by simp [tyK])) (by simp) ?_
  simp (config := { contextual := true, maxSteps := 2000000 }) (disch := omega) [-Int.not_lt, -Int.not_le, -Nat.not_lt, -Nat.not_le, elemK_get, wrapI, leT, leF, ltT, ltF, leTn, leFn, ltTn, ltFn, size_lit, ext_lit]
  exact ⟨_, rfl, rfl⟩
theorem value_List_map : Ret prog f_value_List [vS tMap] (.tup [vS ⟨⟨[]⟩⟩, vB false]) := by
  refine J_pure fn_value_List (by simp) ?_
  simp (config := { contextual := true, maxSteps := 2000000 }) (disch := omega) [-Int.not_lt, -Int.not_le, -Nat.not_lt, -Nat.not_le, elemK_get, wrapI, leT, leF, ltT, ltF, leTn, leFn, ltTn, ltFn, cd_value_List]
  refine callS_go ?_; simp; refine callA_of (show_Type_lit [123, 105, 110, 116, 58, 105, 110, 116, 125] (by simp [tyK])) (by simp) ?_
  simp (config := { contextual := true, maxSteps := 2000000 }) (disch := omega) [-Int.not_lt, -Int.not_le, -Nat.not_lt, -Nat.not_le, elemK_get, wrapI, leT, leF, ltT, ltF, leTn, leFn, ltTn, ltFn, size_lit, ext_lit]
  exact ⟨_, rfl, by decide⟩
theorem IndexByteString_map : Ret prog f_internal_bytealg_IndexByteString [vS (litS [105, 110, 116, 58, 105, 110, 116]), .c (.int .u8 58)] (vI 3) :=
  J_ext (fn := Go.Proofs.Tryz.f161) Go.Proofs.Tryz.func161 (by kernel_rfl) (by kernel_rfl) (by kernel_rfl) (e := Extern.BytealgIndexByte.indexByte) (by kernel_rfl) (fun H μ us h => h.two) (fun w => by rw [Lib.run_indexByteString]; rfl) (fun H μ => .c _)
theorem IndexByte_map : Ret prog f_internal_stringslite_IndexByte [vS (litS [105, 110, 116, 58, 105, 110, 116]), .c (.int .u8 58)] (vI 3) := by
  refine J_pure fn_internal_stringslite_IndexByte (by simp) ?_
  simp (config := { contextual := true, maxSteps := 2000000 }) (disch := omega) [-Int.not_lt, -Int.not_le, -Nat.not_lt, -Nat.not_le, elemK_get, wrapI, leT, leF, ltT, ltF, leTn, leFn, ltTn, ltFn, cd_internal_stringslite_IndexByte]
  refine callS_go ?_; simp; refine callA_of (IndexByteString_map) (by simp) ?_
  simp (config := { contextual := true, maxSteps := 2000000 }) (disch := omega) [-Int.not_lt, -Int.not_le, -Nat.not_lt, -Nat.not_le, elemK_get, wrapI, leT, leF, ltT, ltF, leTn, leFn, ltTn, ltFn]
theorem Index_map : Ret prog f_internal_stringslite_Index [vS (litS [105, 110, 116, 58, 105, 110, 116]), vS (litS [58])] (vI 3) := by
  refine J_pure fn_internal_stringslite_Index (by simp) ?_
  simp (config := { contextual := true, maxSteps := 2000000 }) (disch := omega) [-Int.not_lt, -Int.not_le, -Nat.not_lt, -Nat.not_le, elemK_get, wrapI, leT, leF, ltT, ltF, leTn, leFn, ltTn, ltFn, cd_internal_stringslite_Index, size_lit, eqS_lit]
  refine ⟨58, rfl, ?_⟩
  simp (config := { contextual := true, maxSteps := 2000000 }) (disch := omega) [-Int.not_lt, -Int.not_le, -Nat.not_lt, -Nat.not_le, elemK_get, wrapI, leT, leF, ltT, ltF, leTn, leFn, ltTn, ltFn]
  refine callS_go ?_; simp; refine callA_of (IndexByte_map) (by simp) ?_
  simp (config := { contextual := true, maxSteps := 2000000 }) (disch := omega) [-Int.not_lt, -Int.not_le, -Nat.not_lt, -Nat.not_le, elemK_get, wrapI, leT, leF, ltT, ltF, leTn, leFn, ltTn, ltFn]
theorem Cut1_map : Ret prog f_internal_stringslite_Cut [vS (litS [105, 110, 116, 58, 105, 110, 116]), vS (litS [58])] (.tup [vS tInt, vS tInt, vB true]) := by
  refine J_pure fn_internal_stringslite_Cut (by simp) ?_
  simp (config := { contextual := true, maxSteps := 2000000 }) (disch := omega) [-Int.not_lt, -Int.not_le, -Nat.not_lt, -Nat.not_le, elemK_get, wrapI, leT, leF, ltT, ltF, leTn, leFn, ltTn, ltFn, cd_internal_stringslite_Cut]
  refine callS_go ?_; simp; refine callA_of (Index_map) (by simp) ?_
  simp (config := { contextual := true, maxSteps := 2000000 }) (disch := omega) [-Int.not_lt, -Int.not_le, -Nat.not_lt, -Nat.not_le, elemK_get, wrapI, leT, leF, ltT, ltF, leTn, leFn, ltTn, ltFn, size_lit, ext_lit]
theorem Cut_map : Ret prog f_strings_Cut [vS (litS [105, 110, 116, 58, 105, 110, 116]), vS (litS [58])] (.tup [vS tInt, vS tInt, vB true]) := by
  refine J_pure fn_strings_Cut (by simp) ?_
  simp (config := { contextual := true, maxSteps := 2000000 }) (disch := omega) [-Int.not_lt, -Int.not_le, -Nat.not_lt, -Nat.not_le, elemK_get, wrapI, leT, leF, ltT, ltF, leTn, leFn, ltTn, ltFn, cd_strings_Cut]
  refine callS_go ?_; simp; refine callA_of (Cut1_map) (by simp) ?_
  simp (config := { contextual := true, maxSteps := 2000000 }) (disch := omega) [-Int.not_lt, -Int.not_le, -Nat.not_lt, -Nat.not_le, elemK_get, wrapI, leT, leF, ltT, ltF, leTn, leFn, ltTn, ltFn]
theorem value_Map_map : Ret prog f_value_Map [vS tMap] (.tup [vS tInt, vS tInt, vB true]) := by
  refine J_pure fn_value_Map (by simp) ?_
  simp (config := { contextual := true, maxSteps := 2000000 }) (disch := omega) [-Int.not_lt, -Int.not_le, -Nat.not_lt, -Nat.not_le, elemK_get, wrapI, leT, leF, ltT, ltF, leTn, leFn, ltTn, ltFn, cd_value_Map]
  refine callS_go ?_; simp; refine callA_of (show_Type_lit [123, 105, 110, 116, 58, 105, 110, 116, 125] (by simp [tyK])) (by simp) ?_
  simp (config := { contextual := true, maxSteps := 2000000 }) (disch := omega) [-Int.not_lt, -Int.not_le, -Nat.not_lt, -Nat.not_le, elemK_get, wrapI, leT, leF, ltT, ltF, leTn, leFn, ltTn, ltFn, size_lit, ext_lit]
  refine ⟨123, rfl, ?_⟩
  simp (config := { contextual := true, maxSteps := 2000000 }) (disch := omega) [-Int.not_lt, -Int.not_le, -Nat.not_lt, -Nat.not_le, elemK_get, wrapI, leT, leF, ltT, ltF, leTn, leFn, ltTn, ltFn]
  refine callS_go ?_; simp; refine callA_of (Cut_map) (by simp) ?_
  simp (config := { contextual := true, maxSteps := 2000000 }) (disch := omega) [-Int.not_lt, -Int.not_le, -Nat.not_lt, -Nat.not_le, elemK_get, wrapI, leT, leF, ltT, ltF, leTn, leFn, ltTn, ltFn]
end Go.Am
end

section
namespace Go.Am
set_option maxRecDepth 100000
attribute [local irreducible] vc vcIs vcI vcOp vcD vcDp vcDR vcT vcAR stepD stepDp panD neG ne pv J callS callN loopS lookK evK evsK nthK objK boxK rowK boolK intK strK aggK fnK ifcK cellsK cellsLK ldK ldaK iaK srcK stK appK appD isnlD pvK callJ callJD callA
theorem IndexFunc_none (g : Nat) (s : ByteArray) :
    J prog f_slices_IndexFunc__api_Value_api_Value [.lst [], .fn g [.bp (.e 0) 0]] [.box [vS s]] (· = .ret (vI (-1)) [.box [vS s]]) := by
  refine J_genW fn_slices_IndexFunc__api_Value_api_Value (by simp) ?_
  simp (config := { contextual := true, maxSteps := 2000000 }) (disch := omega) [-Int.not_lt, -Int.not_le, -Nat.not_lt, -Nat.not_le, elemK_get, wrapI, leT, leF, ltT, ltF, leTn, leFn, ltTn, ltFn, cd_slices_IndexFunc__api_Value_api_Value, hpE]
  refine loopS_for 0 (fun _ => [(8, vI 0), (7, vI 0)]) (fun _ => [(.e 0, .box [vS s])]) (Wk.subs (by simp) (by simp)) ?_
  intro i hi
  simp (config := { contextual := true, maxSteps := 2000000 }) (disch := omega) [-Int.not_lt, -Int.not_le, -Nat.not_lt, -Nat.not_le, elemK_get, wrapI, leT, leF, ltT, ltF, leTn, leFn, ltTn, ltFn]
  refine endR [(4, vI (-1))] [(.e 0, .box [vS s])] (Wk.subs (by simp) (by simp)) [] (by simp) ?_
  simp (config := { contextual := true, maxSteps := 2000000 }) (disch := omega) [-Int.not_lt, -Int.not_le, -Nat.not_lt, -Nat.not_le, elemK_get, wrapI, leT, leF, ltT, ltF, leTn, leFn, ltTn, ltFn]
theorem ContainsFunc_none (g : Nat) (s : ByteArray) :
    J prog f_slices_ContainsFunc__api_Value_api_Value [.lst [], .fn g [.bp (.e 0) 0]] [.box [vS s]] (· = .ret (vB false) [.box [vS s]]) := by
  refine J_genW fn_slices_ContainsFunc__api_Value_api_Value (by simp) ?_
  simp (config := { contextual := true, maxSteps := 2000000 }) (disch := omega) [-Int.not_lt, -Int.not_le, -Nat.not_lt, -Nat.not_le, elemK_get, wrapI, leT, leF, ltT, ltF, leTn, leFn, ltTn, ltFn, cd_slices_ContainsFunc__api_Value_api_Value, hpE]
  refine callS_obj [.e 0] rfl rfl (by simp) ?_
  simp
  have hpO := IndexFunc_none g s
  try simp [VmS.obs, VmS.obs', machObs] at hpO
  refine callJ_ret 7 hpO (by simp) ?_
  clear hpO
  simp (config := { contextual := true, maxSteps := 2000000 }) (disch := omega) [-Int.not_lt, -Int.not_le, -Nat.not_lt, -Nat.not_le, elemK_get, wrapI, leT, leF, ltT, ltF, leTn, leFn, ltTn, ltFn]
  refine endR [(4, vB false)] [(.e 0, .box [vS s])] (Wk.subs (by simp) (by simp)) [] (by simp) ?_
  simp (config := { contextual := true, maxSteps := 2000000 }) (disch := omega) [-Int.not_lt, -Int.not_le, -Nat.not_lt, -Nat.not_le, elemK_get, wrapI, leT, leF, ltT, ltF, leTn, leFn, ltTn, ltFn]
def Val.fitK (v : Val) (t : List UInt8) : Bool :=
  if t = [105, 110, 116] then decide (v.kind = 1) && decide (v.text = litS [])
  else if t = [98, 111, 111, 108] then decide (v.kind = 2) && (decide (v.num = 0) || decide (v.num = 1)) && decide (v.text = litS [])
  else if v.num ≠ 0 then false
  else if t = [116, 101, 120, 116] then decide (v.kind = 3) && decide (v.text.size ≤ 256)
  else if t = [91, 105, 110, 116, 93] then decide (v.kind = 4) && decide (v.text = litS [])
  else decide (v.kind = 5) && decide (v.text = litS [])
theorem value_fits_K (v : Val) (t : List UInt8) (ht : t ∈ tyK) (hl : v.list = []) (hs : v.text.size < 2 ^ 40) : Ret prog f_value_fits [v.V, vS (litS t)] (vB (v.fitK t)) := by
  refine J_pure fn_value_fits (by simp) ?_
  simp [tyK] at ht
  rcases ht with rfl | rfl | rfl | rfl | rfl
  · simp (config := { contextual := true, maxSteps := 2000000 }) (disch := omega) [-Int.not_lt, -Int.not_le, -Nat.not_lt, -Nat.not_le, elemK_get, wrapI, leT, leF, ltT, ltF, leTn, leFn, ltTn, ltFn, cd_value_fits, eqS_lit, hl, Val.fitK]
  · simp (config := { contextual := true, maxSteps := 2000000 }) (disch := omega) [-Int.not_lt, -Int.not_le, -Nat.not_lt, -Nat.not_le, elemK_get, wrapI, leT, leF, ltT, ltF, leTn, leFn, ltTn, ltFn, cd_value_fits, eqS_lit, hl, Val.fitK]
  · simp (config := { contextual := true, maxSteps := 2000000 }) (disch := omega) [-Int.not_lt, -Int.not_le, -Nat.not_lt, -Nat.not_le, elemK_get, wrapI, leT, leF, ltT, ltF, leTn, leFn, ltTn, ltFn, cd_value_fits, eqS_lit, hl, Val.fitK]
    (repeat' (first | apply And.intro | intro _))
    all_goals omega
  · simp (config := { contextual := true, maxSteps := 2000000 }) (disch := omega) [-Int.not_lt, -Int.not_le, -Nat.not_lt, -Nat.not_le, elemK_get, wrapI, leT, leF, ltT, ltF, leTn, leFn, ltTn, ltFn, cd_value_fits, eqS_lit, hl]
    refine ⟨fun h => by simp [Val.fitK, h], fun hn => ⟨fun he => ?_, fun he => by simp [Val.fitK, he]⟩⟩
    refine callS_go ?_; simp; refine callA_of (value_List_list) (by simp) ?_
    simp (config := { contextual := true, maxSteps := 2000000 }) (disch := omega) [-Int.not_lt, -Int.not_le, -Nat.not_lt, -Nat.not_le, elemK_get, wrapI, leT, leF, ltT, ltF, leTn, leFn, ltTn, ltFn, hl]
    refine ⟨fun hk => ?_, fun hk => by simp [Val.fitK, hk]⟩
    refine callS_obj [.l 5 0] rfl rfl (by simp) ?_
    simp
    have hpO := ContainsFunc_none 123 tInt
    try simp [VmS.obs, VmS.obs', machObs] at hpO
    refine callJ_ret 105 hpO (by simp) ?_
    clear hpO
    simp (config := { contextual := true, maxSteps := 2000000 }) (disch := omega) [-Int.not_lt, -Int.not_le, -Nat.not_lt, -Nat.not_le, elemK_get, wrapI, leT, leF, ltT, ltF, leTn, leFn, ltTn, ltFn, hl, Val.fitK, *]
  · simp (config := { contextual := true, maxSteps := 2000000 }) (disch := omega) [-Int.not_lt, -Int.not_le, -Nat.not_lt, -Nat.not_le, elemK_get, wrapI, leT, leF, ltT, ltF, leTn, leFn, ltTn, ltFn, cd_value_fits, eqS_lit, hl]
    refine ⟨fun h => by simp [Val.fitK, h], fun hn => ⟨fun he => ?_, fun he => by simp [Val.fitK, he]⟩⟩
    refine callS_go ?_; simp; refine callA_of (value_List_map) (by simp) ?_
    simp (config := { contextual := true, maxSteps := 2000000 }) (disch := omega) [-Int.not_lt, -Int.not_le, -Nat.not_lt, -Nat.not_le, elemK_get, wrapI, leT, leF, ltT, ltF, leTn, leFn, ltTn, ltFn, hl]
    refine callS_go ?_; simp; refine callA_of (value_Map_map) (by simp) ?_
    simp (config := { contextual := true, maxSteps := 2000000 }) (disch := omega) [-Int.not_lt, -Int.not_le, -Nat.not_lt, -Nat.not_le, elemK_get, wrapI, leT, leF, ltT, ltF, leTn, leFn, ltTn, ltFn, hl]
    refine ⟨fun hk => by simp [Val.fitK, hk], fun hk => ?_⟩
    refine loopS_for 0 (fun _ => [(10, vI 0), (2, .bp (.l 2 0) 0)]) (fun _ => [(.l 2 0, .box v.cells)]) (Wk.subs (by simp) (by simp)) ?_
    intro i hi
    simp (config := { contextual := true, maxSteps := 2000000 }) (disch := omega) [-Int.not_lt, -Int.not_le, -Nat.not_lt, -Nat.not_le, elemK_get, wrapI, leT, leF, ltT, ltF, leTn, leFn, ltTn, ltFn, hl, Val.fitK, *]
theorem value_Fits_K (v : Val) (t : List UInt8) (ht : t ∈ tyK) (hl : v.list = []) (hs : v.wt < 2 ^ 40) : Ret prog f_value_Fits [v.V, vS (litS t)] (vB (decide (v.wt ≤ 16384) && v.fitK t)) := by
  have hs2 : v.text.size < 2 ^ 40 := by have := v.wt_eq; omega
  refine J_pure fn_value_Fits (by simp) ?_
  simp (config := { contextual := true, maxSteps := 2000000 }) (disch := omega) [-Int.not_lt, -Int.not_le, -Nat.not_lt, -Nat.not_le, elemK_get, wrapI, leT, leF, ltT, ltF, leTn, leFn, ltTn, ltFn, cd_value_Fits]
  refine callS_go ?_; simp; refine callA_of (show_Type_lit t ht) (by simp) ?_
  simp (config := { contextual := true, maxSteps := 2000000 }) (disch := omega) [-Int.not_lt, -Int.not_le, -Nat.not_lt, -Nat.not_le, elemK_get, wrapI, leT, leF, ltT, ltF, leTn, leFn, ltTn, ltFn]
  refine callS_go ?_; simp; refine callA_of (value_Weight_spec v (by omega)) (by simp) ?_
  simp (config := { contextual := true, maxSteps := 2000000 }) (disch := omega) [-Int.not_lt, -Int.not_le, -Nat.not_lt, -Nat.not_le, elemK_get, wrapI, leT, leF, ltT, ltF, leTn, leFn, ltTn, ltFn]
  by_cases hw : (v.wt : Int) ≤ 16384
  · simp (config := { contextual := true, maxSteps := 2000000 }) (disch := omega) [-Int.not_lt, -Int.not_le, -Nat.not_lt, -Nat.not_le, elemK_get, wrapI, leT, leF, ltT, ltF, leTn, leFn, ltTn, ltFn, hw]
    refine callS_go ?_; simp; refine callA_of (value_fits_K v t ht hl hs2) (by simp) ?_
    simp (config := { contextual := true, maxSteps := 2000000 }) (disch := omega) [-Int.not_lt, -Int.not_le, -Nat.not_lt, -Nat.not_le, elemK_get, wrapI, leT, leF, ltT, ltF, leTn, leFn, ltTn, ltFn]
  · simp (config := { contextual := true, maxSteps := 2000000 }) (disch := omega) [-Int.not_lt, -Int.not_le, -Nat.not_lt, -Nat.not_le, elemK_get, wrapI, leT, leF, ltT, ltF, leTn, leFn, ltTn, ltFn, hw]
def Val.tyc (v : Val) : List UInt8 := if v.list = [] ∧ v.wt ≤ 16384 then (tyK.find? v.fitK).getD [] else []
def TyI (v : Val) (i : Nat) : Prop := i ≤ 5 ∧ ∀ (j : Nat) (h : j < tyK.length), j < i → v.list = [] → v.wt ≤ 16384 → v.fitK tyK[j] = false
theorem TyI.at {v : Val} {i : Nat} (h : TyI v i) (hi : i < tyK.length) (h1 : v.list = []) (h2 : v.wt ≤ 16384) (h3 : v.fitK tyK[i] = true) : v.tyc = tyK[i] := by
  have : tyK.find? v.fitK = some tyK[i] := List.find?_eq_some_iff_getElem.2 ⟨h3, i, hi, rfl, fun j hj => by simp [h.2 j (by omega) hj h1 h2]⟩
  simp [Val.tyc, h1, h2, this]
theorem TyI.next {v : Val} {i : Nat} (h : TyI v i) (hi : i < tyK.length) (h3 : v.list = [] → v.wt ≤ 16384 → v.fitK tyK[i] = false) : TyI v (i + 1) :=
  ⟨hi, fun j h1 h2 ha hb => by
    by_cases e : j = i
    · subst e; exact h3 ha hb
    · exact h.2 j h1 (by omega) ha hb⟩
theorem TyI.none {v : Val} {i : Nat} (h : TyI v i) (hi : ¬ i < 5) : v.tyc = [] := by
  unfold Val.tyc
  split
  · rename_i hc
    have : tyK.find? v.fitK = Option.none := by
      rw [List.find?_eq_none]
      intro t ht
      obtain ⟨j, hj, rfl⟩ := List.getElem_of_mem ht
      have : j < 5 := hj
      simp [h.2 j hj (by omega) hc.1 hc.2]
    simp [this]
  · rfl
theorem code_Type_spec (v : Val) (hs : v.wt < 2 ^ 40) : Ret prog f_code_Type [v.V] (vS (litS v.tyc)) := by
  refine J_pure fn_code_Type (by simp) ?_
  simp (config := { contextual := true, maxSteps := 2000000 }) (disch := omega) [-Int.not_lt, -Int.not_le, -Nat.not_lt, -Nat.not_le, elemK_get, wrapI, leT, leF, ltT, ltF, leTn, leFn, ltTn, ltFn, cd_code_Type]
  refine loopS_while (fun i : Nat => 5 - i) (fun i => [(7, vI i), (6, vI 5), (5, .arr (.l 5 0) 0 5), (1, .bp (.l 1 0) 0)]) (fun _ => [(.l 5 0, .row 9 1 true (tyK.map fun t => [vS (litS t)])), (.l 1 0, .box v.cells)])
    (TyI v) 0 ⟨by simp, by simp⟩ (Wk.subs (by simp) (by simp [tyK])) ?_
  rintro i hI
  have hi := hI.1
  simp (config := { contextual := true, maxSteps := 2000000 }) (disch := omega) [-Int.not_lt, -Int.not_le, -Nat.not_lt, -Nat.not_le, elemK_get, wrapI, leT, leF, ltT, ltF, leTn, leFn, ltTn, ltFn]
  refine ⟨fun hlt => ?_, fun hge => hI.none (by omega)⟩
  have hi5 : i < tyK.length := by simp [tyK]; omega
  refine elemK_map hi5 ?_
  simp (config := { contextual := true, maxSteps := 2000000 }) (disch := omega) [-Int.not_lt, -Int.not_le, -Nat.not_lt, -Nat.not_le, elemK_get, wrapI, leT, leF, ltT, ltF, leTn, leFn, ltTn, ltFn]
  refine ⟨fun he => ?_, fun he => ?_⟩
  · refine callS_go ?_; simp; refine callA_of (value_Fits_K v tyK[i] (List.getElem_mem hi5) he hs) (by simp) ?_
    simp (config := { contextual := true, maxSteps := 2000000 }) (disch := omega) [-Int.not_lt, -Int.not_le, -Nat.not_lt, -Nat.not_le, elemK_get, wrapI, leT, leF, ltT, ltF, leTn, leFn, ltTn, ltFn]
    refine ⟨fun h1 h2 => (hI.at hi5 he h1 h2).symm, fun h => ?_⟩
    exact .of (i + 1) (hI.next hi5 fun _ => h) (by omega) (Wk.subs (by simp) (by simp))
  · exact .of (i + 1) (hI.next hi5 fun h => absurd h he) (by omega) (Wk.subs (by simp) (by simp))
end Go.Am
end

section
namespace Go.Am
set_option maxRecDepth 100000
attribute [local irreducible] vc vcIs vcI vcOp vcD vcDp vcDR vcT vcAR stepD stepDp panD neG ne pv J callS callN loopS lookK evK evsK nthK objK boxK rowK boolK intK strK aggK fnK ifcK cellsK cellsLK ldK ldaK iaK srcK stK appK appD isnlD pvK callJ callJD callA
theorem code_right_spec (m : Mdl) (states : Int) (n : Nat) (i : Ins) (hn : n < m.funcs.length) : Ret prog f_code_right [m.V, vI states, vI n, i.V] (vB (m.insOk states n m.funcs[n] i)) := by
  refine J_pure fn_code_right (by simp) ?_
  simp (config := { contextual := true, maxSteps := 2000000 }) (disch := omega) [-Int.not_lt, -Int.not_le, -Nat.not_lt, -Nat.not_le, elemK_get, wrapI, leT, leF, ltT, ltF, leTn, leFn, ltTn, ltFn, cd_code_right, isKey, keyEq]
  (repeat' (first | apply And.intro | intro _))
  all_goals first
    | (simp [Mdl.insOk, Mdl.most, *]; done)
    | (simp [Mdl.insOk, Mdl.most, *]; omega)
    | (rw [Bool.eq_iff_iff]; simp [Mdl.insOk, Mdl.most, *]; done)
    | (rw [Bool.eq_iff_iff]; simp [Mdl.insOk, Mdl.most, *]; omega)
    | skip
end Go.Am
end

section
namespace Go.Am
structure Gr where
  len : Nat
  pops : Nat → Int
  pushes : Nat → Int
  cap : Int
  nexts : Nat → List Int
namespace Gr
variable {g : Gr}
def out (g : Gr) (x : Int) (p : Nat) : Int := x - g.pops p + g.pushes p
def okAt (g : Gr) (G : Nat → Int) (p : Nat) : Prop := 0 ≤ G p - g.pops p ∧ g.out (G p) p ≤ g.cap ∧ ∀ q ∈ g.nexts p, q.toNat < g.len ∧ G q.toNat = g.out (G p) p
def good (g : Gr) (G : Nat → Int) : Prop := G 0 = 0 ∧ ∀ p, p < g.len → 0 ≤ G p → g.okAt G p
def hOk (g : Gr) : Prop := ∃ G, g.good G
open Classical in
noncomputable def hB (g : Gr) : Bool := decide g.hOk
def kn (known : List Int) (p : Nat) : Int := known.getD p (-1)
theorem kn_lt {known : List Int} {p : Nat} (h : p < known.length) : kn known p = known[p] := by simp [kn, h]
theorem kn_set {known : List Int} {q : Nat} {x : Int} (h : q < known.length) (p : Nat) : kn (known.set q x) p = if p = q then x else kn known p := by
  unfold kn
  by_cases e : p = q
  · subst e; simp [h]
  · have : q ≠ p := fun h => e h.symm
    simp [List.getD, List.getElem?_set, this, e]
def unk (known : List Int) : Nat := known.countP (· < 0)
theorem unk_set : ∀ {known : List Int} {q : Nat} {x : Int} (h : q < known.length), known[q] < 0 → 0 ≤ x → unk (known.set q x) + 1 = unk known
  | y :: l, 0, x, h, h1, h2 => by
    have h1 : y < 0 := h1
    have : ¬ x < 0 := by omega
    simp [unk, List.countP_cons, h1, this]
  | y :: l, q + 1, x, h, h1, h2 => by
    have ih := unk_set (known := l) (q := q) (x := x) (by simpa using h) (by simpa using h1) h2
    simp only [unk, List.set_cons_succ, List.countP_cons] at ih ⊢
    omega
structure HI (g : Gr) (known wk : List Int) : Prop where
  len : known.length = g.len
  zero : kn known 0 = 0
  low : ∀ p, p < g.len → -1 ≤ kn known p
  cap : ∀ p, p < g.len → kn known p ≤ g.cap
  work : ∀ x ∈ wk, 0 ≤ x ∧ x.toNat < g.len ∧ 0 ≤ kn known x.toNat
  done : ∀ p, p < g.len → 0 ≤ kn known p → (p : Int) ∈ wk ∨ g.okAt (kn known) p
  least : ∀ G, g.good G → ∀ p, p < g.len → 0 ≤ kn known p → G p = kn known p
structure HJ (g : Gr) (at_ : Nat) (j : Nat) (known wk : List Int) : Prop where
  len : known.length = g.len
  zero : kn known 0 = 0
  low : ∀ p, p < g.len → -1 ≤ kn known p
  cap : ∀ p, p < g.len → kn known p ≤ g.cap
  work : ∀ x ∈ wk, 0 ≤ x ∧ x.toNat < g.len ∧ 0 ≤ kn known x.toNat
  here : at_ < g.len
  got : 0 ≤ kn known at_
  en : 0 ≤ kn known at_ - g.pops at_
  fit : g.out (kn known at_) at_ ≤ g.cap
  ways : ∀ k, k < j → (h : k < (g.nexts at_).length) → (g.nexts at_)[k].toNat < g.len ∧ kn known (g.nexts at_)[k].toNat = g.out (kn known at_) at_
  done : ∀ p, p < g.len → 0 ≤ kn known p → (p : Int) ∈ wk ∨ p = at_ ∨ g.okAt (kn known) p
  least : ∀ G, g.good G → ∀ p, p < g.len → 0 ≤ kn known p → G p = kn known p
theorem HI.start {g : Gr} (h0 : 0 < g.len) (hc : 0 ≤ g.cap) : HI g ((List.replicate g.len (-1)).set 0 0) [0] := by
  have hk : ∀ p, kn ((List.replicate g.len (-1)).set 0 0) p = if p = 0 then 0 else -1 := fun p => by
    rw [kn_set (by simpa using h0)]
    split
    · rfl
    · simp [kn, List.getD, List.getElem?_replicate]; split <;> rfl
  refine ⟨by simp, by simp [hk], fun p _ => by rw [hk]; split <;> omega, fun p _ => by rw [hk]; split <;> omega, fun x hx => ?_, fun p _ hp => ?_, fun G hG p _ hp => ?_⟩
  · simp at hx; subst hx; simp [hk, h0]
  · rw [hk] at hp; split at hp
    · subst p; simp
    · omega
  · rw [hk] at hp ⊢; split at hp
    · subst p; simp [hG.1]
    · omega
theorem HI.end {known : List Int} (h : HI g known []) : g.hB = true := by
  simp only [hB, decide_eq_true_eq]
  refine ⟨kn known, h.zero, fun p h1 h2 => ?_⟩
  rcases h.done p h1 h2 with h3 | h3
  · cases h3
  · exact h3
theorem HI.last {known work : List Int} {x : Int} (h : HI g known (work ++ [x])) : 0 ≤ x ∧ x.toNat < g.len ∧ 0 ≤ kn known x.toNat := h.work x (by simp)
theorem HI.begin {known work : List Int} {x : Int} (h : HI g known (work ++ [x])) (h1 : 0 ≤ kn known x.toNat - g.pops x.toNat) (h2 : g.out (kn known x.toNat) x.toNat ≤ g.cap) : HJ g x.toNat 0 known work := by
  obtain ⟨a, b, c⟩ := h.last
  refine ⟨h.len, h.zero, h.low, h.cap, fun y hy => h.work y (by simp [hy]), b, c, h1, h2, fun k hk => by omega, fun p hp hq => ?_, h.least⟩
  rcases h.done p hp hq with h3 | h3
  · simp at h3
    rcases h3 with h3 | h3
    · exact .inl h3
    · exact .inr (.inl (by omega))
  · exact .inr (.inr h3)
theorem HI.bad {known work : List Int} {x : Int} (h : HI g known (work ++ [x])) (hb : kn known x.toNat - g.pops x.toNat < 0 ∨ g.cap < g.out (kn known x.toNat) x.toNat) : g.hB = false := by
  obtain ⟨a, b, c⟩ := h.last
  simp only [hB, decide_eq_false_iff_not]
  rintro ⟨G, hG⟩
  have e := h.least G hG _ b c
  have := hG.2 _ b (by rw [e]; exact c)
  unfold okAt at this
  rw [e] at this
  omega
theorem HJ.bad {known work : List Int} {a j : Nat} (h : HJ g a j known work) (hj : j < (g.nexts a).length)
    (hb : g.len ≤ (g.nexts a)[j].toNat ∨ 0 ≤ kn known (g.nexts a)[j].toNat ∧ kn known (g.nexts a)[j].toNat ≠ g.out (kn known a) a) : g.hB = false := by
  simp only [hB, decide_eq_false_iff_not]
  rintro ⟨G, hG⟩
  have e := h.least G hG _ h.here h.got
  have h1 := (hG.2 _ h.here (by rw [e]; exact h.got)).2.2 _ (List.getElem_mem hj)
  rcases hb with hb | ⟨hb, hn⟩
  · omega
  · have e2 := h.least G hG _ h1.1 hb
    rw [e2, e] at h1
    exact hn h1.2
theorem HJ.same {known work : List Int} {a j : Nat} (h : HJ g a j known work) (hj : j < (g.nexts a).length) (h1 : (g.nexts a)[j].toNat < g.len) (h2 : kn known (g.nexts a)[j].toNat = g.out (kn known a) a) : HJ g a (j + 1) known work :=
  ⟨h.len, h.zero, h.low, h.cap, h.work, h.here, h.got, h.en, h.fit, fun k hk hl => by
    by_cases e : k = j
    · subst e; exact ⟨h1, h2⟩
    · exact h.ways k (by omega) hl, h.done, h.least⟩
theorem HJ.new {known work : List Int} {a j : Nat} (h : HJ g a j known work) (hj : j < (g.nexts a).length) (h0 : 0 ≤ (g.nexts a)[j]) (hpu : ∀ p, p < g.len → 0 ≤ g.pushes p) (h1 : (g.nexts a)[j].toNat < g.len) (h2 : kn known (g.nexts a)[j].toNat < 0) :
    HJ g a (j + 1) (known.set (g.nexts a)[j].toNat (g.out (kn known a) a)) (work ++ [(g.nexts a)[j]]) := by
  have hl := h.len
  have ho : 0 ≤ g.out (kn known a) a := by have := h.en; have := hpu a h.here; unfold out; omega
  generalize hq : (g.nexts a)[j] = q at *
  have hk : ∀ p, kn (known.set q.toNat (g.out (kn known a) a)) p = if p = q.toNat then g.out (kn known a) a else kn known p := kn_set (by omega)
  have hne : ∀ p, 0 ≤ kn known p → kn (known.set q.toNat (g.out (kn known a) a)) p = kn known p := fun p hp => by
    rw [hk, if_neg]; intro e; subst e; omega
  have hgot := h.got
  have ha := hne a h.got
  refine ⟨by simpa using hl, by rw [hne 0 (by rw [h.zero]; omega)]; exact h.zero, fun p hp => ?_, fun p hp => ?_, fun x hx => ?_, h.here, by rw [ha]; exact h.got, by rw [ha]; exact h.en, by rw [ha]; exact h.fit, fun k hk' hl' => ?_, fun p hp hp0 => ?_, fun G hG p hp hp0 => ?_⟩
  · rw [hk]; split
    · omega
    · exact h.low p hp
  · rw [hk]; split
    · exact h.fit
    · exact h.cap p hp
  · simp at hx
    rcases hx with hx | rfl
    · obtain ⟨q1, q2, q3⟩ := h.work x hx
      exact ⟨q1, q2, by rw [hne _ q3]; exact q3⟩
    · exact ⟨h0, h1, by rw [hk]; simp; exact ho⟩
  · rw [ha]
    by_cases e : k = j
    · subst e; rw [hq]; exact ⟨h1, by rw [hk]; simp⟩
    · obtain ⟨w1, w2⟩ := h.ways k (by omega) hl'
      refine ⟨w1, ?_⟩
      rw [hne _ (by rw [w2]; exact ho)]; exact w2
  · by_cases e : p = q.toNat
    · left; subst e; simp; right; omega
    · have e1 : kn (known.set q.toNat (g.out (kn known a) a)) p = kn known p := by rw [hk, if_neg e]
      rw [e1] at hp0
      rcases h.done p hp hp0 with h3 | h3 | h3
      · left; simp [h3]
      · right; left; exact h3
      · right; right
        obtain ⟨o1, o2, o3⟩ := h3
        refine ⟨by rw [e1]; exact o1, by rw [e1]; exact o2, fun r hr => ?_⟩
        obtain ⟨r1, r2⟩ := o3 r hr
        refine ⟨r1, ?_⟩
        rw [e1, hne _ ?_]
        · exact r2
        · rw [r2]; have := hpu p hp; unfold out; omega
  · by_cases e : p = q.toNat
    · subst e
      rw [hk]; simp
      have e2 := h.least G hG _ h.here h.got
      have h3 := (hG.2 _ h.here (by rw [e2]; exact h.got)).2.2 q (by rw [← hq]; exact List.getElem_mem hj)
      rw [h3.2, e2]
    · have e1 : kn (known.set q.toNat (g.out (kn known a) a)) p = kn known p := by rw [hk, if_neg e]
      rw [e1] at hp0 ⊢
      exact h.least G hG p hp hp0
theorem HJ.end {known work : List Int} {a j : Nat} (h : HJ g a j known work) (hj : (g.nexts a).length ≤ j) : HI g known work :=
  ⟨h.len, h.zero, h.low, h.cap, h.work, fun p h1 h2 => by
    rcases h.done p h1 h2 with h3 | h3 | h3
    · exact .inl h3
    · subst h3
      refine .inr ⟨h.en, h.fit, fun q hq => ?_⟩
      obtain ⟨k, hk, rfl⟩ := List.getElem_of_mem hq
      exact h.ways k (by omega) hk
    · exact .inr h3, h.least⟩
end Gr
end Go.Am
end
