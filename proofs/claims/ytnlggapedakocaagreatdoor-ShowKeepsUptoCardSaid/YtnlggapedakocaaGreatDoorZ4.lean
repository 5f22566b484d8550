/- ShowKeeps of the given program, part 4 of 6 of the proof: for all arguments within the bound the law answers true, and each argument reads behind the call as before. Conditions: those of the given card. -/
import Derived.Test.YtnlggapedakocaaGreatDoorZ3
import Derived.Defers
import Derived.Recover
import Derived.Lib.Overlaps
import Derived.Lib.Bytealg
import Derived.Lib.LaidTab
import Derived.Shelf.Strconv.Itoa4
import Derived.Test.YtnlggapedakocaaGreatDoorTie
import Derived.WalkKit
import Derived.OpenShut
import Derived.Deep.DeepHandedRow
import Derived.Below
import Derived.Shelf.Strings.OnBuilder
import Derived.Test.YtnlggapedakocaaGreatDoorProg
import Derived.Shelf.Strings.Builder1
set_option maxHeartbeats 1600000
set_option linter.all false
set_option linter.unusedVariables false
set_option linter.unusedSimpArgs false
set_option linter.unnecessarySimpa false
section
namespace Go.Am
def Tok.cells (x : Tok) : List V := [.c (.int .i64 x.kind), .c (.string x.text), .c (.int .i64 x.num), .c (.int .i64 x.at_)]
theorem Tok.ac0 (x : Tok) : x.cells = [.c (.int .i64 x.kind), .c (.string x.text), .c (.int .i64 x.num), .c (.int .i64 x.at_)] := rfl
theorem Tok.flat (x : Tok) : kR0 x.cells = true := by rw [Tok.ac0]; rfl
@[simp] theorem Tok.co0 (x : Tok) : x.cells.length = 4 := by rw [Tok.ac0]; rfl
section
variable {x : Tok} {K : V -> Prop} {Ks : List V -> Prop} {hp : Hp}
@[simp] theorem Tok.nth0 : nthK x.cells 0 K = K (.c (.int .i64 x.kind)) := by rw [Tok.ac0]; simp
@[simp] theorem Tok.nth1 : nthK x.cells 1 K = K (.c (.string x.text)) := by rw [Tok.ac0]; simp
@[simp] theorem Tok.nth2 : nthK x.cells 2 K = K (.c (.int .i64 x.num)) := by rw [Tok.ac0]; simp
@[simp] theorem Tok.nth3 : nthK x.cells 3 K = K (.c (.int .i64 x.at_)) := by rw [Tok.ac0]; simp
@[simp] theorem Tok.sG0 : x.cells.take 1 = [.c (.int .i64 x.kind)] := by rw [Tok.ac0]; rfl
@[simp] theorem Tok.sa0 : x.cells.drop 1 = [.c (.string x.text), .c (.int .i64 x.num), .c (.int .i64 x.at_)] := by rw [Tok.ac0]; rfl
@[simp] theorem Tok.sH0 : x.cells.take 2 = [.c (.int .i64 x.kind), .c (.string x.text)] := by rw [Tok.ac0]; rfl
@[simp] theorem Tok.sb0 : x.cells.drop 2 = [.c (.int .i64 x.num), .c (.int .i64 x.at_)] := by rw [Tok.ac0]; rfl
@[simp] theorem Tok.sI0 : x.cells.take 3 = [.c (.int .i64 x.kind), .c (.string x.text), .c (.int .i64 x.num)] := by rw [Tok.ac0]; rfl
@[simp] theorem Tok.sc0 : x.cells.drop 3 = [.c (.int .i64 x.at_)] := by rw [Tok.ac0]; rfl
@[simp] theorem Tok.take4 : x.cells.take 4 = x.cells := List.take_of_length_le (by simp)
@[simp] theorem Tok.drop4 : x.cells.drop 4 = [] := by rw [Tok.ac0]; rfl
@[simp] theorem Tok.has0 {i : Id} : V.hasL i x.cells = false := fH0 x.flat i
@[simp] theorem Tok.sm0 {ss : List Nat} : V.fJ0 ss x.cells = false := eW0 x.flat ss
@[simp] theorem Tok.sr0 {i : Id} : x.cells.map (V.kill i) = x.cells := gp0 x.flat i
@[simp] theorem Tok.jE0 : scalars x.cells = true := b60 x.flat
@[simp] theorem Tok.q20 : V.bt0 x.cells = true := ed0 x.flat
@[simp] theorem Tok.sQ0 : V.dB0 hp x.cells Ks = Ks x.cells := gq0 x.flat Ks
@[simp] theorem Tok.see0 {nl : Bool} {ks : List Id} : V.seeL nl ks hp x.cells Ks = Ks x.cells := gQ0 x.flat nl ks Ks
@[simp] theorem Tok.map0 {f : Id -> Option Id} : c60 f x.cells Ks = Ks x.cells := gP0 x.flat f Ks
@[simp] theorem Tok.sn0 {ks : List Id} : V.bq0 ks x.cells = x.cells := eX0 x.flat ks
end
@[simp] theorem Tok.js0 (x : Tok) : (x.cells = []) = False := by rw [Tok.ac0]; simp
@[simp ↓] theorem Tok.head {l : List Tok} : (l.map Tok.cells = [] \/ ∃ e, (l.map Tok.cells)[0]? = some e /\ e.length = 4) = True := head_map fun x => x.co0
abbrev Tok.V (x : Tok) : V := .agg x.cells
structure Slo where
 name : ByteArray
 type : ByteArray
 at_ : Int
 deriving Inhabited
def Slo.cells (x : Slo) : List V := [.c (.string x.name), .c (.string x.type), .c (.int .i64 x.at_)]
theorem Slo.ac0 (x : Slo) : x.cells = [.c (.string x.name), .c (.string x.type), .c (.int .i64 x.at_)] := rfl
theorem Slo.flat (x : Slo) : kR0 x.cells = true := by rw [Slo.ac0]; rfl
@[simp] theorem Slo.co0 (x : Slo) : x.cells.length = 3 := by rw [Slo.ac0]; rfl
section
variable {x : Slo} {K : V -> Prop} {Ks : List V -> Prop} {hp : Hp}
@[simp] theorem Slo.nth0 : nthK x.cells 0 K = K (.c (.string x.name)) := by rw [Slo.ac0]; simp
@[simp] theorem Slo.nth1 : nthK x.cells 1 K = K (.c (.string x.type)) := by rw [Slo.ac0]; simp
@[simp] theorem Slo.nth2 : nthK x.cells 2 K = K (.c (.int .i64 x.at_)) := by rw [Slo.ac0]; simp
@[simp] theorem Slo.sG0 : x.cells.take 1 = [.c (.string x.name)] := by rw [Slo.ac0]; rfl
@[simp] theorem Slo.sa0 : x.cells.drop 1 = [.c (.string x.type), .c (.int .i64 x.at_)] := by rw [Slo.ac0]; rfl
@[simp] theorem Slo.sH0 : x.cells.take 2 = [.c (.string x.name), .c (.string x.type)] := by rw [Slo.ac0]; rfl
@[simp] theorem Slo.sb0 : x.cells.drop 2 = [.c (.int .i64 x.at_)] := by rw [Slo.ac0]; rfl
@[simp] theorem Slo.sI0 : x.cells.take 3 = x.cells := List.take_of_length_le (by simp)
@[simp] theorem Slo.sc0 : x.cells.drop 3 = [] := by rw [Slo.ac0]; rfl
@[simp] theorem Slo.has0 {i : Id} : V.hasL i x.cells = false := fH0 x.flat i
@[simp] theorem Slo.sm0 {ss : List Nat} : V.fJ0 ss x.cells = false := eW0 x.flat ss
@[simp] theorem Slo.sr0 {i : Id} : x.cells.map (V.kill i) = x.cells := gp0 x.flat i
@[simp] theorem Slo.jE0 : scalars x.cells = true := b60 x.flat
@[simp] theorem Slo.q20 : V.bt0 x.cells = true := ed0 x.flat
@[simp] theorem Slo.sQ0 : V.dB0 hp x.cells Ks = Ks x.cells := gq0 x.flat Ks
@[simp] theorem Slo.see0 {nl : Bool} {ks : List Id} : V.seeL nl ks hp x.cells Ks = Ks x.cells := gQ0 x.flat nl ks Ks
@[simp] theorem Slo.map0 {f : Id -> Option Id} : c60 f x.cells Ks = Ks x.cells := gP0 x.flat f Ks
@[simp] theorem Slo.sn0 {ks : List Id} : V.bq0 ks x.cells = x.cells := eX0 x.flat ks
end
@[simp] theorem Slo.js0 (x : Slo) : (x.cells = []) = False := by rw [Slo.ac0]; simp
@[simp ↓] theorem Slo.head {l : List Slo} : (l.map Slo.cells = [] \/ ∃ e, (l.map Slo.cells)[0]? = some e /\ e.length = 3) = True := head_map fun x => x.co0
abbrev Slo.V (x : Slo) : V := .agg x.cells
inductive Exq where
 | mk (kind op num : Int) (text : ByteArray) (slot : Int) (type : ByteArray) (args : List Exq) (at_ : Int)
 deriving Inhabited
def Exq.kind : Exq -> Int | .mk k _ _ _ _ _ _ _ => k
def Exq.op : Exq -> Int | .mk _ o _ _ _ _ _ _ => o
def Exq.num : Exq -> Int | .mk _ _ n _ _ _ _ _ => n
def Exq.text : Exq -> ByteArray | .mk _ _ _ t _ _ _ _ => t
def Exq.slot : Exq -> Int | .mk _ _ _ _ s _ _ _ => s
def Exq.type : Exq -> ByteArray | .mk _ _ _ _ _ y _ _ => y
def Exq.args : Exq -> List Exq | .mk _ _ _ _ _ _ l _ => l
def Exq.at_ : Exq -> Int | .mk _ _ _ _ _ _ _ a => a
def Exq.cells : Exq -> List V
 | .mk k o n t s y l a => [.c (.int .i64 k), .c (.int .i64 o), .c (.int .i64 n), .c (.string t), .c (.int .i64 s), .c (.string y), .lst (l.attach.map fun x => x.1.cells), .c (.int .i64 a)]
termination_by v => v
decreasing_by
 have := List.sizeOf_lt_of_mem x.2
 simp only [Exq.mk.sizeOf_spec]; omega
theorem Exq.ac0 (x : Exq) : x.cells = [.c (.int .i64 x.kind), .c (.int .i64 x.op), .c (.int .i64 x.num), .c (.string x.text), .c (.int .i64 x.slot), .c (.string x.type), .lst (x.args.map Exq.cells), .c (.int .i64 x.at_)] := by
 obtain ⟨k, o, n, t, s, y, l, a⟩ := x
 rw [Exq.cells]; simp [Exq.kind, Exq.op, Exq.num, Exq.text, Exq.slot, Exq.type, Exq.args, Exq.at_]
theorem Exq.flat (x : Exq) : kR0 x.cells = true := by rw [Exq.ac0]; rfl
@[simp] theorem Exq.co0 (x : Exq) : x.cells.length = 8 := by rw [Exq.ac0]; rfl
section
variable {x : Exq} {K : V -> Prop} {Ks : List V -> Prop} {hp : Hp}
@[simp] theorem Exq.nth0 : nthK x.cells 0 K = K (.c (.int .i64 x.kind)) := by rw [Exq.ac0]; simp
@[simp] theorem Exq.nth1 : nthK x.cells 1 K = K (.c (.int .i64 x.op)) := by rw [Exq.ac0]; simp
@[simp] theorem Exq.nth2 : nthK x.cells 2 K = K (.c (.int .i64 x.num)) := by rw [Exq.ac0]; simp
@[simp] theorem Exq.nth3 : nthK x.cells 3 K = K (.c (.string x.text)) := by rw [Exq.ac0]; simp
@[simp] theorem Exq.nth4 : nthK x.cells 4 K = K (.c (.int .i64 x.slot)) := by rw [Exq.ac0]; simp
@[simp] theorem Exq.nth5 : nthK x.cells 5 K = K (.c (.string x.type)) := by rw [Exq.ac0]; simp
@[simp] theorem Exq.nth6 : nthK x.cells 6 K = K (.lst (x.args.map Exq.cells)) := by rw [Exq.ac0]; simp
@[simp] theorem Exq.nth7 : nthK x.cells 7 K = K (.c (.int .i64 x.at_)) := by rw [Exq.ac0]; simp
@[simp] theorem Exq.sG0 : x.cells.take 1 = [.c (.int .i64 x.kind)] := by rw [Exq.ac0]; rfl
@[simp] theorem Exq.sa0 : x.cells.drop 1 = [.c (.int .i64 x.op), .c (.int .i64 x.num), .c (.string x.text), .c (.int .i64 x.slot), .c (.string x.type), .lst (x.args.map Exq.cells), .c (.int .i64 x.at_)] := by rw [Exq.ac0]; rfl
@[simp] theorem Exq.sH0 : x.cells.take 2 = [.c (.int .i64 x.kind), .c (.int .i64 x.op)] := by rw [Exq.ac0]; rfl
@[simp] theorem Exq.sb0 : x.cells.drop 2 = [.c (.int .i64 x.num), .c (.string x.text), .c (.int .i64 x.slot), .c (.string x.type), .lst (x.args.map Exq.cells), .c (.int .i64 x.at_)] := by rw [Exq.ac0]; rfl
@[simp] theorem Exq.sI0 : x.cells.take 3 = [.c (.int .i64 x.kind), .c (.int .i64 x.op), .c (.int .i64 x.num)] := by rw [Exq.ac0]; rfl
@[simp] theorem Exq.sc0 : x.cells.drop 3 = [.c (.string x.text), .c (.int .i64 x.slot), .c (.string x.type), .lst (x.args.map Exq.cells), .c (.int .i64 x.at_)] := by rw [Exq.ac0]; rfl
@[simp] theorem Exq.take4 : x.cells.take 4 = [.c (.int .i64 x.kind), .c (.int .i64 x.op), .c (.int .i64 x.num), .c (.string x.text)] := by rw [Exq.ac0]; rfl
@[simp] theorem Exq.drop4 : x.cells.drop 4 = [.c (.int .i64 x.slot), .c (.string x.type), .lst (x.args.map Exq.cells), .c (.int .i64 x.at_)] := by rw [Exq.ac0]; rfl
@[simp] theorem Exq.take5 : x.cells.take 5 = [.c (.int .i64 x.kind), .c (.int .i64 x.op), .c (.int .i64 x.num), .c (.string x.text), .c (.int .i64 x.slot)] := by rw [Exq.ac0]; rfl
@[simp] theorem Exq.drop5 : x.cells.drop 5 = [.c (.string x.type), .lst (x.args.map Exq.cells), .c (.int .i64 x.at_)] := by rw [Exq.ac0]; rfl
@[simp] theorem Exq.take6 : x.cells.take 6 = [.c (.int .i64 x.kind), .c (.int .i64 x.op), .c (.int .i64 x.num), .c (.string x.text), .c (.int .i64 x.slot), .c (.string x.type)] := by rw [Exq.ac0]; rfl
@[simp] theorem Exq.drop6 : x.cells.drop 6 = [.lst (x.args.map Exq.cells), .c (.int .i64 x.at_)] := by rw [Exq.ac0]; rfl
@[simp] theorem Exq.take7 : x.cells.take 7 = [.c (.int .i64 x.kind), .c (.int .i64 x.op), .c (.int .i64 x.num), .c (.string x.text), .c (.int .i64 x.slot), .c (.string x.type), .lst (x.args.map Exq.cells)] := by rw [Exq.ac0]; rfl
@[simp] theorem Exq.drop7 : x.cells.drop 7 = [.c (.int .i64 x.at_)] := by rw [Exq.ac0]; rfl
@[simp] theorem Exq.take8 : x.cells.take 8 = x.cells := List.take_of_length_le (by simp)
@[simp] theorem Exq.drop8 : x.cells.drop 8 = [] := by rw [Exq.ac0]; rfl
@[simp] theorem Exq.has0 {i : Id} : V.hasL i x.cells = false := fH0 x.flat i
@[simp] theorem Exq.sm0 {ss : List Nat} : V.fJ0 ss x.cells = false := eW0 x.flat ss
@[simp] theorem Exq.sr0 {i : Id} : x.cells.map (V.kill i) = x.cells := gp0 x.flat i
@[simp] theorem Exq.jE0 : scalars x.cells = true := b60 x.flat
@[simp] theorem Exq.q20 : V.bt0 x.cells = true := ed0 x.flat
@[simp] theorem Exq.sQ0 : V.dB0 hp x.cells Ks = Ks x.cells := gq0 x.flat Ks
@[simp] theorem Exq.see0 {nl : Bool} {ks : List Id} : V.seeL nl ks hp x.cells Ks = Ks x.cells := gQ0 x.flat nl ks Ks
@[simp] theorem Exq.map0 {f : Id -> Option Id} : c60 f x.cells Ks = Ks x.cells := gP0 x.flat f Ks
@[simp] theorem Exq.sn0 {ks : List Id} : V.bq0 ks x.cells = x.cells := eX0 x.flat ks
end
@[simp] theorem Exq.js0 (x : Exq) : (x.cells = []) = False := by rw [Exq.ac0]; simp
@[simp ↓] theorem Exq.head {l : List Exq} : (l.map Exq.cells = [] \/ ∃ e, (l.map Exq.cells)[0]? = some e /\ e.length = 8) = True := head_map fun x => x.co0
abbrev Exq.V (x : Exq) : V := .agg x.cells
inductive Stm where
 | mk (kind : Int) (name : ByteArray) (slot : Int) (state : Bool) (num : Int) (e : List Exq) (body els : List Stm) (at_ : Int)
 deriving Inhabited
def Stm.kind : Stm -> Int | .mk k _ _ _ _ _ _ _ _ => k
def Stm.name : Stm -> ByteArray | .mk _ n _ _ _ _ _ _ _ => n
def Stm.slot : Stm -> Int | .mk _ _ s _ _ _ _ _ _ => s
def Stm.state : Stm -> Bool | .mk _ _ _ s _ _ _ _ _ => s
def Stm.num : Stm -> Int | .mk _ _ _ _ n _ _ _ _ => n
def Stm.e : Stm -> List Exq | .mk _ _ _ _ _ e _ _ _ => e
def Stm.body : Stm -> List Stm | .mk _ _ _ _ _ _ b _ _ => b
def Stm.els : Stm -> List Stm | .mk _ _ _ _ _ _ _ c _ => c
def Stm.at_ : Stm -> Int | .mk _ _ _ _ _ _ _ _ a => a
def Stm.cells : Stm -> List V
 | .mk k n s st m e b c a => [.c (.int .i64 k), .c (.string n), .c (.int .i64 s), .c (.bool st), .c (.int .i64 m), .lst (e.map Exq.cells), .lst (b.attach.map fun x => x.1.cells), .lst (c.attach.map fun x => x.1.cells), .c (.int .i64 a)]
termination_by v => v
decreasing_by
 all_goals
  have := List.sizeOf_lt_of_mem x.2
  simp only [Stm.mk.sizeOf_spec]; omega
theorem Stm.ac0 (x : Stm) : x.cells = [.c (.int .i64 x.kind), .c (.string x.name), .c (.int .i64 x.slot), .c (.bool x.state), .c (.int .i64 x.num), .lst (x.e.map Exq.cells), .lst (x.body.map Stm.cells), .lst (x.els.map Stm.cells), .c (.int .i64 x.at_)] := by
 obtain ⟨k, n, s, st, m, e, b, c, a⟩ := x
 rw [Stm.cells]; simp [Stm.kind, Stm.name, Stm.slot, Stm.state, Stm.num, Stm.e, Stm.body, Stm.els, Stm.at_]
theorem Stm.flat (x : Stm) : kR0 x.cells = true := by rw [Stm.ac0]; rfl
@[simp] theorem Stm.co0 (x : Stm) : x.cells.length = 9 := by rw [Stm.ac0]; rfl
section
variable {x : Stm} {K : V -> Prop} {Ks : List V -> Prop} {hp : Hp}
@[simp] theorem Stm.nth0 : nthK x.cells 0 K = K (.c (.int .i64 x.kind)) := by rw [Stm.ac0]; simp
@[simp] theorem Stm.nth1 : nthK x.cells 1 K = K (.c (.string x.name)) := by rw [Stm.ac0]; simp
@[simp] theorem Stm.nth2 : nthK x.cells 2 K = K (.c (.int .i64 x.slot)) := by rw [Stm.ac0]; simp
@[simp] theorem Stm.nth3 : nthK x.cells 3 K = K (.c (.bool x.state)) := by rw [Stm.ac0]; simp
@[simp] theorem Stm.nth4 : nthK x.cells 4 K = K (.c (.int .i64 x.num)) := by rw [Stm.ac0]; simp
@[simp] theorem Stm.nth5 : nthK x.cells 5 K = K (.lst (x.e.map Exq.cells)) := by rw [Stm.ac0]; simp
@[simp] theorem Stm.nth6 : nthK x.cells 6 K = K (.lst (x.body.map Stm.cells)) := by rw [Stm.ac0]; simp
@[simp] theorem Stm.nth7 : nthK x.cells 7 K = K (.lst (x.els.map Stm.cells)) := by rw [Stm.ac0]; simp
@[simp] theorem Stm.nth8 : nthK x.cells 8 K = K (.c (.int .i64 x.at_)) := by rw [Stm.ac0]; simp
@[simp] theorem Stm.sG0 : x.cells.take 1 = [.c (.int .i64 x.kind)] := by rw [Stm.ac0]; rfl
@[simp] theorem Stm.sa0 : x.cells.drop 1 = [.c (.string x.name), .c (.int .i64 x.slot), .c (.bool x.state), .c (.int .i64 x.num), .lst (x.e.map Exq.cells), .lst (x.body.map Stm.cells), .lst (x.els.map Stm.cells), .c (.int .i64 x.at_)] := by rw [Stm.ac0]; rfl
@[simp] theorem Stm.sH0 : x.cells.take 2 = [.c (.int .i64 x.kind), .c (.string x.name)] := by rw [Stm.ac0]; rfl
@[simp] theorem Stm.sb0 : x.cells.drop 2 = [.c (.int .i64 x.slot), .c (.bool x.state), .c (.int .i64 x.num), .lst (x.e.map Exq.cells), .lst (x.body.map Stm.cells), .lst (x.els.map Stm.cells), .c (.int .i64 x.at_)] := by rw [Stm.ac0]; rfl
@[simp] theorem Stm.sI0 : x.cells.take 3 = [.c (.int .i64 x.kind), .c (.string x.name), .c (.int .i64 x.slot)] := by rw [Stm.ac0]; rfl
@[simp] theorem Stm.sc0 : x.cells.drop 3 = [.c (.bool x.state), .c (.int .i64 x.num), .lst (x.e.map Exq.cells), .lst (x.body.map Stm.cells), .lst (x.els.map Stm.cells), .c (.int .i64 x.at_)] := by rw [Stm.ac0]; rfl
@[simp] theorem Stm.take4 : x.cells.take 4 = [.c (.int .i64 x.kind), .c (.string x.name), .c (.int .i64 x.slot), .c (.bool x.state)] := by rw [Stm.ac0]; rfl
@[simp] theorem Stm.drop4 : x.cells.drop 4 = [.c (.int .i64 x.num), .lst (x.e.map Exq.cells), .lst (x.body.map Stm.cells), .lst (x.els.map Stm.cells), .c (.int .i64 x.at_)] := by rw [Stm.ac0]; rfl
@[simp] theorem Stm.take5 : x.cells.take 5 = [.c (.int .i64 x.kind), .c (.string x.name), .c (.int .i64 x.slot), .c (.bool x.state), .c (.int .i64 x.num)] := by rw [Stm.ac0]; rfl
@[simp] theorem Stm.drop5 : x.cells.drop 5 = [.lst (x.e.map Exq.cells), .lst (x.body.map Stm.cells), .lst (x.els.map Stm.cells), .c (.int .i64 x.at_)] := by rw [Stm.ac0]; rfl
@[simp] theorem Stm.take6 : x.cells.take 6 = [.c (.int .i64 x.kind), .c (.string x.name), .c (.int .i64 x.slot), .c (.bool x.state), .c (.int .i64 x.num), .lst (x.e.map Exq.cells)] := by rw [Stm.ac0]; rfl
@[simp] theorem Stm.drop6 : x.cells.drop 6 = [.lst (x.body.map Stm.cells), .lst (x.els.map Stm.cells), .c (.int .i64 x.at_)] := by rw [Stm.ac0]; rfl
@[simp] theorem Stm.take7 : x.cells.take 7 = [.c (.int .i64 x.kind), .c (.string x.name), .c (.int .i64 x.slot), .c (.bool x.state), .c (.int .i64 x.num), .lst (x.e.map Exq.cells), .lst (x.body.map Stm.cells)] := by rw [Stm.ac0]; rfl
@[simp] theorem Stm.drop7 : x.cells.drop 7 = [.lst (x.els.map Stm.cells), .c (.int .i64 x.at_)] := by rw [Stm.ac0]; rfl
@[simp] theorem Stm.take8 : x.cells.take 8 = [.c (.int .i64 x.kind), .c (.string x.name), .c (.int .i64 x.slot), .c (.bool x.state), .c (.int .i64 x.num), .lst (x.e.map Exq.cells), .lst (x.body.map Stm.cells), .lst (x.els.map Stm.cells)] := by rw [Stm.ac0]; rfl
@[simp] theorem Stm.drop8 : x.cells.drop 8 = [.c (.int .i64 x.at_)] := by rw [Stm.ac0]; rfl
@[simp] theorem Stm.take9 : x.cells.take 9 = x.cells := List.take_of_length_le (by simp)
@[simp] theorem Stm.has0 {i : Id} : V.hasL i x.cells = false := fH0 x.flat i
@[simp] theorem Stm.sm0 {ss : List Nat} : V.fJ0 ss x.cells = false := eW0 x.flat ss
@[simp] theorem Stm.sr0 {i : Id} : x.cells.map (V.kill i) = x.cells := gp0 x.flat i
@[simp] theorem Stm.jE0 : scalars x.cells = true := b60 x.flat
@[simp] theorem Stm.q20 : V.bt0 x.cells = true := ed0 x.flat
@[simp] theorem Stm.sQ0 : V.dB0 hp x.cells Ks = Ks x.cells := gq0 x.flat Ks
@[simp] theorem Stm.see0 {nl : Bool} {ks : List Id} : V.seeL nl ks hp x.cells Ks = Ks x.cells := gQ0 x.flat nl ks Ks
@[simp] theorem Stm.map0 {f : Id -> Option Id} : c60 f x.cells Ks = Ks x.cells := gP0 x.flat f Ks
@[simp] theorem Stm.sn0 {ks : List Id} : V.bq0 ks x.cells = x.cells := eX0 x.flat ks
end
@[simp] theorem Stm.js0 (x : Stm) : (x.cells = []) = False := by rw [Stm.ac0]; simp
@[simp ↓] theorem Stm.head {l : List Stm} : (l.map Stm.cells = [] \/ ∃ e, (l.map Stm.cells)[0]? = some e /\ e.length = 9) = True := head_map fun x => x.co0
abbrev Stm.V (x : Stm) : V := .agg x.cells
abbrev fk0 (s : ByteArray) : List V := [.c (.string s)]
structure Fun where
 name : ByteArray
 on : Bool
 params : List Slo
 result : ByteArray
 locals : List ByteArray
 body : List Stm
 at_ : Int
 deriving Inhabited
def Fun.cells (x : Fun) : List V := [.c (.string x.name), .c (.bool x.on), .lst (x.params.map Slo.cells), .c (.string x.result), .lst (x.locals.map fk0), .lst (x.body.map Stm.cells), .c (.int .i64 x.at_)]
theorem Fun.ac0 (x : Fun) : x.cells = [.c (.string x.name), .c (.bool x.on), .lst (x.params.map Slo.cells), .c (.string x.result), .lst (x.locals.map fk0), .lst (x.body.map Stm.cells), .c (.int .i64 x.at_)] := rfl
theorem Fun.flat (x : Fun) : kR0 x.cells = true := by rw [Fun.ac0]; rfl
@[simp] theorem Fun.co0 (x : Fun) : x.cells.length = 7 := by rw [Fun.ac0]; rfl
section
variable {x : Fun} {K : V -> Prop} {Ks : List V -> Prop} {hp : Hp}
@[simp] theorem Fun.nth0 : nthK x.cells 0 K = K (.c (.string x.name)) := by rw [Fun.ac0]; simp
@[simp] theorem Fun.nth1 : nthK x.cells 1 K = K (.c (.bool x.on)) := by rw [Fun.ac0]; simp
@[simp] theorem Fun.nth2 : nthK x.cells 2 K = K (.lst (x.params.map Slo.cells)) := by rw [Fun.ac0]; simp
@[simp] theorem Fun.nth3 : nthK x.cells 3 K = K (.c (.string x.result)) := by rw [Fun.ac0]; simp
@[simp] theorem Fun.nth4 : nthK x.cells 4 K = K (.lst (x.locals.map fk0)) := by rw [Fun.ac0]; simp
@[simp] theorem Fun.nth5 : nthK x.cells 5 K = K (.lst (x.body.map Stm.cells)) := by rw [Fun.ac0]; simp
@[simp] theorem Fun.nth6 : nthK x.cells 6 K = K (.c (.int .i64 x.at_)) := by rw [Fun.ac0]; simp
@[simp] theorem Fun.sG0 : x.cells.take 1 = [.c (.string x.name)] := by rw [Fun.ac0]; rfl
@[simp] theorem Fun.sa0 : x.cells.drop 1 = [.c (.bool x.on), .lst (x.params.map Slo.cells), .c (.string x.result), .lst (x.locals.map fk0), .lst (x.body.map Stm.cells), .c (.int .i64 x.at_)] := by rw [Fun.ac0]; rfl
@[simp] theorem Fun.sH0 : x.cells.take 2 = [.c (.string x.name), .c (.bool x.on)] := by rw [Fun.ac0]; rfl
@[simp] theorem Fun.sb0 : x.cells.drop 2 = [.lst (x.params.map Slo.cells), .c (.string x.result), .lst (x.locals.map fk0), .lst (x.body.map Stm.cells), .c (.int .i64 x.at_)] := by rw [Fun.ac0]; rfl
@[simp] theorem Fun.sI0 : x.cells.take 3 = [.c (.string x.name), .c (.bool x.on), .lst (x.params.map Slo.cells)] := by rw [Fun.ac0]; rfl
@[simp] theorem Fun.sc0 : x.cells.drop 3 = [.c (.string x.result), .lst (x.locals.map fk0), .lst (x.body.map Stm.cells), .c (.int .i64 x.at_)] := by rw [Fun.ac0]; rfl
@[simp] theorem Fun.take4 : x.cells.take 4 = [.c (.string x.name), .c (.bool x.on), .lst (x.params.map Slo.cells), .c (.string x.result)] := by rw [Fun.ac0]; rfl
@[simp] theorem Fun.drop4 : x.cells.drop 4 = [.lst (x.locals.map fk0), .lst (x.body.map Stm.cells), .c (.int .i64 x.at_)] := by rw [Fun.ac0]; rfl
@[simp] theorem Fun.take5 : x.cells.take 5 = [.c (.string x.name), .c (.bool x.on), .lst (x.params.map Slo.cells), .c (.string x.result), .lst (x.locals.map fk0)] := by rw [Fun.ac0]; rfl
@[simp] theorem Fun.drop5 : x.cells.drop 5 = [.lst (x.body.map Stm.cells), .c (.int .i64 x.at_)] := by rw [Fun.ac0]; rfl
@[simp] theorem Fun.take6 : x.cells.take 6 = [.c (.string x.name), .c (.bool x.on), .lst (x.params.map Slo.cells), .c (.string x.result), .lst (x.locals.map fk0), .lst (x.body.map Stm.cells)] := by rw [Fun.ac0]; rfl
@[simp] theorem Fun.drop6 : x.cells.drop 6 = [.c (.int .i64 x.at_)] := by rw [Fun.ac0]; rfl
@[simp] theorem Fun.take7 : x.cells.take 7 = x.cells := List.take_of_length_le (by simp)
@[simp] theorem Fun.drop7 : x.cells.drop 7 = [] := by rw [Fun.ac0]; rfl
@[simp] theorem Fun.has0 {i : Id} : V.hasL i x.cells = false := fH0 x.flat i
@[simp] theorem Fun.sm0 {ss : List Nat} : V.fJ0 ss x.cells = false := eW0 x.flat ss
@[simp] theorem Fun.sr0 {i : Id} : x.cells.map (V.kill i) = x.cells := gp0 x.flat i
@[simp] theorem Fun.jE0 : scalars x.cells = true := b60 x.flat
@[simp] theorem Fun.q20 : V.bt0 x.cells = true := ed0 x.flat
@[simp] theorem Fun.sQ0 : V.dB0 hp x.cells Ks = Ks x.cells := gq0 x.flat Ks
@[simp] theorem Fun.see0 {nl : Bool} {ks : List Id} : V.seeL nl ks hp x.cells Ks = Ks x.cells := gQ0 x.flat nl ks Ks
@[simp] theorem Fun.map0 {f : Id -> Option Id} : c60 f x.cells Ks = Ks x.cells := gP0 x.flat f Ks
@[simp] theorem Fun.sn0 {ks : List Id} : V.bq0 ks x.cells = x.cells := eX0 x.flat ks
end
@[simp] theorem Fun.js0 (x : Fun) : (x.cells = []) = False := by rw [Fun.ac0]; simp
@[simp ↓] theorem Fun.head {l : List Fun} : (l.map Fun.cells = [] \/ ∃ e, (l.map Fun.cells)[0]? = some e /\ e.length = 7) = True := head_map fun x => x.co0
abbrev Fun.V (x : Fun) : V := .agg x.cells
structure Prg where
 version : Int
 states : List Slo
 fns : List Fun
 deriving Inhabited
def Prg.cells (x : Prg) : List V := [.c (.int .i64 x.version), .lst (x.states.map Slo.cells), .lst (x.fns.map Fun.cells)]
theorem Prg.ac0 (x : Prg) : x.cells = [.c (.int .i64 x.version), .lst (x.states.map Slo.cells), .lst (x.fns.map Fun.cells)] := rfl
theorem Prg.flat (x : Prg) : kR0 x.cells = true := by rw [Prg.ac0]; rfl
@[simp] theorem Prg.co0 (x : Prg) : x.cells.length = 3 := by rw [Prg.ac0]; rfl
section
variable {x : Prg} {K : V -> Prop} {Ks : List V -> Prop} {hp : Hp}
@[simp] theorem Prg.nth0 : nthK x.cells 0 K = K (.c (.int .i64 x.version)) := by rw [Prg.ac0]; simp
@[simp] theorem Prg.nth1 : nthK x.cells 1 K = K (.lst (x.states.map Slo.cells)) := by rw [Prg.ac0]; simp
@[simp] theorem Prg.nth2 : nthK x.cells 2 K = K (.lst (x.fns.map Fun.cells)) := by rw [Prg.ac0]; simp
@[simp] theorem Prg.sG0 : x.cells.take 1 = [.c (.int .i64 x.version)] := by rw [Prg.ac0]; rfl
@[simp] theorem Prg.sa0 : x.cells.drop 1 = [.lst (x.states.map Slo.cells), .lst (x.fns.map Fun.cells)] := by rw [Prg.ac0]; rfl
@[simp] theorem Prg.sH0 : x.cells.take 2 = [.c (.int .i64 x.version), .lst (x.states.map Slo.cells)] := by rw [Prg.ac0]; rfl
@[simp] theorem Prg.sb0 : x.cells.drop 2 = [.lst (x.fns.map Fun.cells)] := by rw [Prg.ac0]; rfl
@[simp] theorem Prg.sI0 : x.cells.take 3 = x.cells := List.take_of_length_le (by simp)
@[simp] theorem Prg.sc0 : x.cells.drop 3 = [] := by rw [Prg.ac0]; rfl
@[simp] theorem Prg.has0 {i : Id} : V.hasL i x.cells = false := fH0 x.flat i
@[simp] theorem Prg.sm0 {ss : List Nat} : V.fJ0 ss x.cells = false := eW0 x.flat ss
@[simp] theorem Prg.sr0 {i : Id} : x.cells.map (V.kill i) = x.cells := gp0 x.flat i
@[simp] theorem Prg.jE0 : scalars x.cells = true := b60 x.flat
@[simp] theorem Prg.q20 : V.bt0 x.cells = true := ed0 x.flat
@[simp] theorem Prg.sQ0 : V.dB0 hp x.cells Ks = Ks x.cells := gq0 x.flat Ks
@[simp] theorem Prg.see0 {nl : Bool} {ks : List Id} : V.seeL nl ks hp x.cells Ks = Ks x.cells := gQ0 x.flat nl ks Ks
@[simp] theorem Prg.map0 {f : Id -> Option Id} : c60 f x.cells Ks = Ks x.cells := gP0 x.flat f Ks
@[simp] theorem Prg.sn0 {ks : List Id} : V.bq0 ks x.cells = x.cells := eX0 x.flat ks
end
@[simp] theorem Prg.js0 (x : Prg) : (x.cells = []) = False := by rw [Prg.ac0]; simp
@[simp ↓] theorem Prg.head {l : List Prg} : (l.map Prg.cells = [] \/ ∃ e, (l.map Prg.cells)[0]? = some e /\ e.length = 3) = True := head_map fun x => x.co0
abbrev Prg.V (x : Prg) : V := .agg x.cells
end Go.Am
end

section
namespace Go.Am
def cI0 : Bs := [118, 101, 114, 115, 105, 111, 110]
def fi0 : Bs := [115, 116, 97, 116, 101]
def kwFn : Bs := [102, 110]
def kwOn : Bs := [111, 110]
def fg0 : Bs := [108, 101, 116]
def em0 : Bs := [115, 101, 116]
def fe0 : Bs := [100, 101, 108]
def kwIf : Bs := [105, 102]
def cp0 : Bs := [101, 108, 115, 101]
def ff0 : Bs := [102, 111, 114]
def kwTo : Bs := [116, 111]
def fh0 : Bs := [114, 101, 116]
def hJ0 : Bs := [116, 114, 117, 101]
def eI0 : Bs := [102, 97, 108, 115, 101]
def gE0 : Bs := [105, 110, 116]
def el0 : Bs := [98, 111, 111, 108]
def dk0 : Bs := [116, 101, 120, 116]
def qQ0 : List Bs := [cI0, fi0, kwFn, kwOn, fg0, em0, fe0, kwIf, cp0, ff0, kwTo, fh0, hJ0, eI0, gE0, el0, dk0]
def e70 (s : ByteArray) : Bool := qQ0.contains (sB s)
abbrev PR (α : Type) := LxR (α × Nat)
def tk (ts : List Tok) (n : Nat) : Tok := ts.getD n default
def isT (ts : List Tok) (n : Nat) (kind : Int) (text : Bs) : Bool := decide ((tk ts n).kind = kind) && decide ((tk ts n).text = bS text)
def e50 {α : Type} (ts : List Tok) (n : Nat) (e : Int) : LxR α := .bad n e
def LxR.bind {α β : Type} : LxR α -> (α -> LxR β) -> LxR β
 | .ok a, f => f a
 | .bad a e, _ => .bad a e
def bi0 (ts : List Tok) (n : Nat) (text : Bs) : LxR Nat := if isT ts n 4 text then .ok (n + 1) else e50 ts n 31
def nf0 (ts : List Tok) (n : Nat) (text : Bs) : LxR Nat := if isT ts n 1 text then .ok (n + 1) else e50 ts n 31
def dA0 (ts : List Tok) (n : Nat) : PR Tok := if (tk ts n).kind = 1 /\ e70 (tk ts n).text = false then .ok (tk ts n, n + 1) else e50 ts n 31
def pInt (ts : List Tok) (n : Nat) : PR Tok := if (tk ts n).kind = 2 then .ok (tk ts n, n + 1) else e50 ts n 31
def pKey (ts : List Tok) (n : Nat) : PR Bs := if isT ts n 1 gE0 then .ok (gE0, n + 1) else if isT ts n 1 dk0 then .ok (dk0, n + 1) else e50 ts n 31
def fL0 (ts : List Tok) : Nat -> Nat -> PR Bs
 | 0, n => e50 ts n 32
 | r + 1, n =>
  if isT ts n 1 el0 then .ok (el0, n + 1)
  else if isT ts n 4 [91] then (fL0 ts r (n + 1)).bind fun p => (bi0 ts p.2 [93]).bind fun n' => .ok ([91] ++ p.1 ++ [93], n')
  else if isT ts n 4 [123] then (pKey ts (n + 1)).bind fun k => (bi0 ts k.2 [58]).bind fun n1 => (fL0 ts r n1).bind fun p => (bi0 ts p.2 [125]).bind fun n' => .ok ([123] ++ k.1 ++ [58] ++ p.1 ++ [125], n')
  else pKey ts n
def ky0 (ts : List Tok) (n : Nat) : PR Slo := (dA0 ts n).bind fun t => (bi0 ts t.2 [58]).bind fun n1 => (fL0 ts 4 n1).bind fun p => .ok (⟨t.1.text, bS p.1, t.1.at_⟩, p.2)
def cr0 : List (List Bs) := [[[124, 124]], [[38, 38]], [[61, 61], [33, 61], [60], [60, 61], [62], [62, 61]], [[43], [45]], [[42], [47], [37]]]
def pOps : List Bs := cr0.flatten
def ek0 (l : Nat) (t : Tok) : Bool := decide (t.kind = 4) && (cr0.getD l []).contains (sB t.text)
def kw0 (ts : List Tok) (n : Nat) (d : Nat) : LxR Unit := if 24 < d then e50 ts n 32 else .ok ()
mutual
def b10 (ts : List Tok) : Nat -> Nat -> Nat -> PR Exq
 | 0, _, _ => .bad 0 (-1)
 | f + 1, d, n => (kw0 ts n d).bind fun _ => pBin ts f 0 d n
def pBin (ts : List Tok) : Nat -> Nat -> Nat -> Nat -> PR Exq
 | 0, _, _, _ => .bad 0 (-1)
 | f + 1, l, d, n => if l = 5 then pUn ts f d n else (pBin ts f (l + 1) d n).bind fun p => lC0 ts f l d p.1 p.2
def lC0 (ts : List Tok) : Nat -> Nat -> Nat -> Exq -> Nat -> PR Exq
 | 0, _, _, _, _ => .bad 0 (-1)
 | f + 1, l, d, out, n =>
  if ek0 l (tk ts n) then (pBin ts f (l + 1) d (n + 1)).bind fun p =>
   if l = 2 then (if ek0 l (tk ts p.2) then e50 ts p.2 31 else .ok (.mk 15 ((pOps.idxOf (sB (tk ts n).text) : Nat) + 1) 0 (bS []) 0 (bS []) [out, p.1] (tk ts n).at_, p.2))
   else lC0 ts f l d (.mk 15 ((pOps.idxOf (sB (tk ts n).text) : Nat) + 1) 0 (bS []) 0 (bS []) [out, p.1] (tk ts n).at_) p.2
  else .ok (out, n)
def pUn (ts : List Tok) : Nat -> Nat -> Nat -> PR Exq
 | 0, _, _ => .bad 0 (-1)
 | f + 1, d, n =>
  if isT ts n 4 [45] then (kw0 ts (n + 1) (d + 1)).bind fun _ => (pUn ts f (d + 1) (n + 1)).bind fun p => .ok (.mk 13 0 0 (bS []) 0 (bS []) [p.1] (tk ts n).at_, p.2)
  else if isT ts n 4 [33] then (kw0 ts (n + 1) (d + 1)).bind fun _ => (pUn ts f (d + 1) (n + 1)).bind fun p => .ok (.mk 14 0 0 (bS []) 0 (bS []) [p.1] (tk ts n).at_, p.2)
  else (jX0 ts f d n).bind fun p => lD0 ts f d p.1 p.2
def lD0 (ts : List Tok) : Nat -> Nat -> Exq -> Nat -> PR Exq
 | 0, _, _, _ => .bad 0 (-1)
 | f + 1, d, out, n =>
  if isT ts n 4 [91] then (b10 ts f (d + 1) (n + 1)).bind fun p => (bi0 ts p.2 [93]).bind fun n' => lD0 ts f d (.mk 12 0 0 (bS []) 0 (bS []) [out, p.1] (tk ts n).at_) n'
  else .ok (out, n)
def jX0 (ts : List Tok) : Nat -> Nat -> Nat -> PR Exq
 | 0, _, _ => .bad 0 (-1)
 | f + 1, d, n =>
  if (tk ts n).kind = 2 then .ok (.mk 1 0 (tk ts n).num (bS []) 0 (bS []) [] (tk ts n).at_, n + 1)
  else if (tk ts n).kind = 3 then .ok (.mk 3 0 0 (tk ts n).text 0 (bS []) [] (tk ts n).at_, n + 1)
  else if isT ts n 1 hJ0 then .ok (.mk 2 0 1 (bS []) 0 (bS []) [] (tk ts n).at_, n + 1)
  else if isT ts n 1 eI0 then .ok (.mk 2 0 0 (bS []) 0 (bS []) [] (tk ts n).at_, n + 1)
  else if isT ts n 4 [40] then (b10 ts f (d + 1) (n + 1)).bind fun p => (bi0 ts p.2 [41]).bind fun n' => .ok (p.1, n')
  else (dA0 ts n).bind fun t =>
   if isT ts (n + 1) 4 [40] then (if isT ts (n + 2) 4 [41] then .ok (.mk 7 0 0 t.1.text 0 (bS []) [] t.1.at_, n + 3) else (iW0 ts f (d + 1) [] (n + 2)).bind fun p => .ok (.mk 7 0 0 t.1.text 0 (bS []) p.1 t.1.at_, p.2))
   else .ok (.mk 6 0 0 t.1.text 0 (bS []) [] t.1.at_, n + 1)
def iW0 (ts : List Tok) : Nat -> Nat -> List Exq -> Nat -> PR (List Exq)
 | 0, _, _, _ => .bad 0 (-1)
 | f + 1, d, out, n => (b10 ts f d n).bind fun p =>
  if isT ts p.2 4 [41] then .ok (out ++ [p.1], p.2 + 1) else (bi0 ts p.2 [44]).bind fun n' => iW0 ts f d (out ++ [p.1]) n'
end
def stm0 (kind : Int) (name : ByteArray) (e : List Exq) (body els : List Stm) (at_ : Int) : Stm := .mk kind name 0 false 0 e body els at_
mutual
def ca0 (ts : List Tok) : Nat -> Nat -> Nat -> PR (List Stm)
 | 0, _, _ => .bad 0 (-1)
 | f + 1, d, n => (kw0 ts n d).bind fun _ => (bi0 ts n [123]).bind fun n1 => lF0 ts f d [] n1
def lF0 (ts : List Tok) : Nat -> Nat -> List Stm -> Nat -> PR (List Stm)
 | 0, _, _, _ => .bad 0 (-1)
 | f + 1, d, out, n => if isT ts n 4 [125] then .ok (out, n + 1) else (pStm ts f d n).bind fun p => lF0 ts f d (out ++ [p.1]) p.2
def pStm (ts : List Tok) : Nat -> Nat -> Nat -> PR Stm
 | 0, _, _ => .bad 0 (-1)
 | f + 1, d, n =>
  if isT ts n 1 fg0 then (dA0 ts (n + 1)).bind fun t => (bi0 ts t.2 [61]).bind fun n1 => (b10 ts f (d + 1) n1).bind fun p => (bi0 ts p.2 [59]).bind fun n2 => .ok (stm0 1 t.1.text [p.1] [] [] (tk ts n).at_, n2)
  else if isT ts n 1 em0 then (dA0 ts (n + 1)).bind fun t =>
   if isT ts t.2 4 [91] then (b10 ts f (d + 1) (t.2 + 1)).bind fun p => (bi0 ts p.2 [93]).bind fun n1 => (bi0 ts n1 [61]).bind fun n2 => (b10 ts f (d + 1) n2).bind fun q => (bi0 ts q.2 [59]).bind fun n3 => .ok (stm0 2 t.1.text [p.1, q.1] [] [] (tk ts n).at_, n3)
   else (bi0 ts t.2 [61]).bind fun n1 => (b10 ts f (d + 1) n1).bind fun p => (bi0 ts p.2 [59]).bind fun n2 => .ok (stm0 2 t.1.text [p.1] [] [] (tk ts n).at_, n2)
  else if isT ts n 1 fe0 then (dA0 ts (n + 1)).bind fun t => (bi0 ts t.2 [91]).bind fun n1 => (b10 ts f (d + 1) n1).bind fun p => (bi0 ts p.2 [93]).bind fun n2 => (bi0 ts n2 [59]).bind fun n3 => .ok (stm0 3 t.1.text [p.1] [] [] (tk ts n).at_, n3)
  else if isT ts n 1 kwIf then (b10 ts f (d + 1) (n + 1)).bind fun p => (ca0 ts f (d + 1) p.2).bind fun b =>
   if isT ts b.2 1 cp0 then (ca0 ts f (d + 1) (b.2 + 1)).bind fun c => .ok (stm0 4 (bS []) [p.1] b.1 c.1 (tk ts n).at_, c.2) else .ok (stm0 4 (bS []) [p.1] b.1 [] (tk ts n).at_, b.2)
  else if isT ts n 1 ff0 then (dA0 ts (n + 1)).bind fun t => (nf0 ts t.2 kwTo).bind fun n1 => (b10 ts f (d + 1) n1).bind fun p => (ca0 ts f (d + 1) p.2).bind fun b => .ok (stm0 5 t.1.text [p.1] b.1 [] (tk ts n).at_, b.2)
  else if isT ts n 1 fh0 then (b10 ts f (d + 1) (n + 1)).bind fun p => (bi0 ts p.2 [59]).bind fun n1 => .ok (stm0 6 (bS []) [p.1] [] [] (tk ts n).at_, n1)
  else e50 ts n 31
end
def c80 (ts : List Tok) : Nat -> List Slo -> Nat -> PR (List Slo)
 | 0, _, _ => .bad 0 (-1)
 | f + 1, out, n => (ky0 ts n).bind fun p => if isT ts p.2 4 [41] then .ok (out ++ [p.1], p.2 + 1) else (bi0 ts p.2 [44]).bind fun n' => c80 ts f (out ++ [p.1]) n'
def pFun (ts : List Tok) (f : Nat) (on : Bool) (n : Nat) : PR Fun :=
 (dA0 ts n).bind fun t => (bi0 ts t.2 [40]).bind fun n1 =>
  ((if isT ts n1 4 [41] then .ok ([], n1 + 1) else c80 ts f [] n1 : PR (List Slo))).bind fun ps => (bi0 ts ps.2 [58]).bind fun n2 => (fL0 ts 4 n2).bind fun r => (ca0 ts f 1 r.2).bind fun b =>
    .ok (⟨t.1.text, on, ps.1, bS r.1, [], b.1, t.1.at_⟩, b.2)
def mg0 (ts : List Tok) : Nat -> Prg -> Nat -> PR Prg
 | 0, _, _ => .bad 0 (-1)
 | f + 1, p, n =>
  if (tk ts n).kind = 5 then .ok (p, n)
  else if isT ts n 1 fi0 then (ky0 ts (n + 1)).bind fun s => (bi0 ts s.2 [59]).bind fun n1 => mg0 ts f { p with states := p.states ++ [s.1] } n1
  else if isT ts n 1 kwFn then (pFun ts f false (n + 1)).bind fun q => mg0 ts f { p with fns := p.fns ++ [q.1] } q.2
  else if isT ts n 1 kwOn then (pFun ts f true (n + 1)).bind fun q => mg0 ts f { p with fns := p.fns ++ [q.1] } q.2
  else e50 ts n 31
def lE0 (ts : List Tok) (f : Nat) : PR Prg := (nf0 ts 0 cI0).bind fun n => (pInt ts n).bind fun v => (bi0 ts v.2 [59]).bind fun n1 => mg0 ts f ⟨v.1.num, [], []⟩ n1
def iZ0 (s : Bs) (f : Nat) : LxR Prg := match hM0 s with
 | .bad a e => .bad a e
 | .ok ts => match lE0 ts f with
  | .bad n e => .bad (tk ts n.toNat).at_ e
  | .ok (p, _) => .ok p
def LxR.live {α : Type} : LxR α -> Prop
 | .bad _ e => e ≠ -1
 | .ok _ => True
theorem LxR.aI0 {α β : Type} {r : LxR α} {f : α -> LxR β} (h : (r.bind f).live) : r.live /\ ∀ a, r = .ok a -> (f a).live := by
 cases r with
 | ok a => exact ⟨trivial, fun b e => by injection e with e; subst e; exact h⟩
 | bad a e => exact ⟨h, fun b e => by cases e⟩
end Go.Am
end

section
namespace Go.Am
variable {P : Program} {n : Nat} {env : Env} {hp : Hp}
theorem J_ext {f : FuncId} {fn : Func} {e : Array Value -> Sem Value} {args : List V} {v : V} {vs : Array Value} {x : Value} (hf : P.funcs[f]? = some fn) (hn : (fn.name == "runtime.NumGoroutine") = false) (hb : fn.body.isNone = true) (h1 : (Extern.findNext fn).isNone = true)
  (h2 : Extern.find fn = some e) (hargs : ∀ H μ us, RL H μ args us -> us = vs) (he : ∀ w, (e vs).run P w = .ok x w) (hx : ∀ H μ, R H μ v x) : Ret P f args v := by
 intro H μ us w h3 h4
 have := hargs H μ us h3
 subst this
 have hn' : ¬ fn.name = "runtime.NumGoroutine" := by simpa using hn
 have h1' : Extern.findNext fn = none := by simpa using h1
 have hb' : fn.body = none := by simpa using hb
 have hrun : (callFunc f us).run P w = .ok (.value x) w := by
  simp [callFunc, hf, hn', hb', h1', h2, he, mark]
  rfl
 unfold dF0
 rw [hrun]
 exact ⟨_, H, μ, rfl, ⟨x, rfl, hx H μ⟩, (Nx.refl H μ (hpE 0 []) w).toNj, h4, Nat.le_refl _, fun j o hj => by simp at hj⟩
theorem RL.two {H : Imm} {μ : Mu} {x y : Value} {us : Array Value} (h : RL H μ [.c x, .c y] us) : us = #[x, y] := by
 have h0 := (h.2 0 _ rfl).bP0
 have h1 := (h.2 1 _ rfl).bP0
 have hs := h.1
 simp at hs
 apply Array.ext
 ·simp [hs]
 ·intro i h2 h3
  have : i = 0 \/ i = 1 := by simp at h3; omega
  rcases this with rfl | rfl
  ·simpa [Array.getD, h2] using h0
  ·simpa [Array.getD, h2] using h1
end Go.Am
end

section
namespace Go.Am
variable {P : Program} {n : Nat} {H : Imm} {μ : Mu} {env : Env} {hp : Hp} {a : Act} {w : World}
theorem fin_ret {m : Sz} {fn : Func} {rs : List IOp} {k : Nat} {Q : Res -> Prop} {H0 : Imm} {μ0 : Mu} {hp0 : Hp} {w0 : World} (k6 : gx0 P fn.results.toList = some rs) (hS : Sat m H μ env hp a w)
  (hN : Nj H0 μ0 hp0 w0 H μ hp w) (hext : ∀ j, j < k -> μ (.e j) = μ0 (.e j)) (h : retX k rs Q .ret env hp) :
  ∃ x, (results fn a.tmps).run P w = .ok x w /\ ∃ r H' μ', Q r /\ JP H0 μ0 k hp0 w0 r (.returned x) H' μ' w := by
 obtain ⟨outs, e0, q1⟩ := h
 obtain ⟨v, x, e1, e2, e3⟩ := lI0 (K := fun v => outV hp (esL 0 k ++ outs) v fun u obs => Q (.ret u obs)) k6 hS q1
 refine ⟨x, e3, ?_⟩
 obtain ⟨u, obs', H1, m1, m2, m3, m4, m5, m6⟩ := oX0 hS.wd e2 e0 e1
 refine ⟨_, H1, _, m1, ⟨x, rfl, m2⟩, hN.trans m5, m4, by rw [m6]; simp [lo0], fun j o hj ho hg => ?_⟩
 simp only [muE]
 rw [List.getElem?_append_left (by rw [lo0]; exact hj), oH0 hj, Nat.zero_add]
 exact hext j hj
theorem qM0 {rs : List IOp} {k : Nat} {Q : Res -> Prop} {H0 : Imm} {μ0 : Mu} {hp0 : Hp} {w0 : World} {v : V} {x : Value} (hr : R H μ v x) (hW : Wd H μ hp w)
  (hN : Nj H0 μ0 hp0 w0 H μ hp w) (hext : ∀ j, j < k -> μ (.e j) = μ0 (.e j)) (h : retX k rs Q (.pan v) env hp) :
  ∃ r H' μ', Q r /\ JP H0 μ0 k hp0 w0 r (.panicked [{ v := x, recovered := false }]) H' μ' w := by
 obtain ⟨u, obs', H1, m1, m2, m3, m4, m5, m6⟩ := oX0 hW hr (pB0 0 _) h
 refine ⟨_, H1, _, m1, ⟨x, rfl, m2⟩, hN.trans m5, m4, by rw [m6, lo0], fun j o hj ho hg => ?_⟩
 simp only [muE]
 rw [oH0 hj, Nat.zero_add]
 exact hext j hj
theorem end_wp {fn : Func} {c : Code} {cd : Cd} {rs : List IOp} {k : Nat} {Q : Res -> Prop} (k5 : pp0 P n c cd) (k6 : gx0 P fn.results.toList = some rs) (hS : Sat ⟨n, []⟩ H μ env hp a w)
  (h : vc P cd env hp (wkQ (retX k rs Q))) : c.wp P (bodyPost P fn fun e w' => ∃ r H' μ', Q r /\ JP H μ k hp w r e H' μ' w') a w := by
 refine wp_mono (vc_okA (n := ⟨n, []⟩) k5 h H μ a w hS) fun e a' w' hpo => ?_
 obtain ⟨ex, env', hp', H', μ', q1, q2, q3, q4⟩ := hpo
 have hret : ∀ {q : ex = .normal \/ ex = .ret}, ∃ v, (results fn a'.tmps).run P w' = .ok v w' /\ ∃ r H'' μ'', Q r /\ JP H μ k hp w r (.returned v) H'' μ'' w' := by
  intro q
  have q1' : ∃ E h, Wk E h env' hp' /\ (retX k rs Q .ret E h) := by
   rcases q with rfl | rfl
   ·obtain ⟨E, h, r1, r2⟩ := q1; exact ⟨E, h, r1, r2⟩
   ·exact q1
  obtain ⟨E, hE, hwk, q1⟩ := q1'
  obtain ⟨H2, μ2, r1, r2⟩ := hwk ⟨n, []⟩ H' μ' a' w' q4
  exact fin_ret k6 r1 (q3.trans r2).toNj (fun j _ => (q3.trans r2).ext j) q1
 cases ex with
 | normal => cases e <;> simp only [Ex.ok] at q2; exact ⟨q4.defers, hret (q := .inl rfl)⟩
 | ret => cases e <;> simp only [Ex.ok] at q2; exact ⟨q4.defers, hret (q := .inr rfl)⟩
 | exit i => exact q1.elim
 | pan v =>
  cases e <;> simp only [Ex.ok] at q2
  obtain ⟨x, rfl, hx⟩ := q2
  exact ⟨q4.defers, qM0 (env := env') (rs := rs) hx q4.wd q3.toNj (fun j _ => q3.ext j) q1⟩
def recMode : FrameMode -> FrameMode
 | .panicking ({ v, recovered := false, goexit := false } :: older) => .panicking ({ v, recovered := true } :: older)
 | m => m
def PanOf (H : Imm) (pv : Option V) (u : FrameMode) : Prop :=
 match pv with
 | none => u = .returning
 | some p => ∃ x, u = .panicking [{ v := x, recovered := false }] /\ R H Mu.bot p x
def e40 (rec : Bool) (u : FrameMode) : FrameMode := if rec then recMode u else u
def JD (P : Program) (rec : Bool) (f : FuncId) (args : List V) (obs : List Ob) (pv : Option V) (Q : Res -> Prop) : Prop :=
 ∀ H μ vs w u, RL H μ args vs -> Wd H μ (hpE 0 obs) w -> PanOf H pv u -> (callFunc f vs).run P w = .ok (.enter f vs) w /\
  CallsD P f vs u w fun e u' w' => u' = e40 rec u /\ ∃ r H' μ', Q r /\ JP H μ obs.length (hpE 0 obs) w r e H' μ' w'
theorem nn0 {args : List V} {vs : Array Value} (hlen : args.length <= n) (hargs : RL H μ args vs) (hW : Wd H μ hp w) : Sat ⟨n, []⟩ H μ (bE0 0 args) hp { tmps := vs ++ Array.replicate (n - vs.size) undef, defers := [] } w := by
 have hsz : vs.size = args.length := hargs.1
 refine ⟨rfl, by simp [hsz]; omega, fun s v hs => ?_, hW⟩
 obtain ⟨j, e, hj⟩ := fc0 hs
 rw [Nat.zero_add] at e; subst e
 have hlt : s < vs.size := by rw [hsz]; exact (List.getElem?_eq_some_iff.1 hj).1
 have := hargs.2 s v hj
 rw [Array.getD_eq_getD_getElem?] at this ⊢
 rw [Array.getElem?_append_left hlt]; exact this
theorem JD_of {f : FuncId} {cd : Cd} {rs : List IOp} {args : List V} {obs : List Ob} {pv : Option V} {Q : Res -> Prop} (hf : FnIs P f n cd rs) (hlen : args.length <= n)
  (h : vc P cd (bE0 0 args) (hpE 0 obs) (wkQ (retX obs.length rs Q))) : JD P false f args obs pv Q := by
 intro H μ vs w u h1 h2 h3
 obtain ⟨fn, c, k1, k2, k3, k4, k5, k6⟩ := hf.ex
 have k2' : ¬ fn.name = "runtime.NumGoroutine" := by simpa using k2
 refine ⟨by simp [callFunc, k1, k2', k3], ?_⟩
 have hS := nn0 (w := w) (hp := hpE 0 obs) hlen h1 h2
 rw [<- k4] at hS
 exact callsD_of_wp k1 k3 (end_wp (n := n) k5 k6 (by rw [k4] at hS ⊢; exact hS) h)
def pvV : Option V -> V
 | none => .c .nilIface
 | some p => p
theorem JR_of {f : FuncId} {s : Nat} {cd : Cd} {rs : List IOp} {args : List V} {obs : List Ob} {pv : Option V} {Q : Res -> Prop} (hf : FnR P f n s cd rs) (hlen : args.length <= n) (hp : ∀ p, pv = some p -> p.pure = true)
  (h : vc P cd ((bE0 0 args).put (some s) (pvV pv)) (hpE 0 obs) (wkQ (retX obs.length rs Q))) : JD P true f args obs pv Q := by
 intro H μ vs w u h1 h2 h3
 obtain ⟨fn, c, id, o, cal, ops, k1, k2, k3, c1, c2, c3, c4, c5, c6, k4, k5, k6⟩ := hf.ex
 have k2' : ¬ fn.name = "runtime.NumGoroutine" := by simpa using k2
 refine ⟨by simp [callFunc, k1, k2', k3], ?_⟩
 have hS := nn0 (w := w) (hp := hpE 0 obs) hlen h1 h2
 refine callsD_of_wpS k1 k3 fun c₀ cs hu => wpS_seq (wpS_region ?_)
 rw [k4]
 generalize ha : ({ tmps := vs ++ Array.replicate (n - vs.size) undef, defers := [] } : Act) = a at hS
 have hrun : (execOp a.eval o).run P w = .ok .recover w := by
  obtain ⟨cc, ca, ct⟩ := cal
  simp only at c2 c3
  subst c2; subst c3
  simp [execOp, c1, resolve, invoke, builtin]
 rcases k5 with ⟨rfl, k5⟩ | ⟨o2, s2, cd0, rfl, e1, e2, e3, e4, k5, rfl⟩
 rotate_left
 ·have hwant : Region.wanted o (yielded #[o, o2] a.tmps) = true := by simp [Region.wanted, c5]
  have h' : vc P cd0 (((bE0 0 args).put (some s) (pvV pv)).put (some s2) (pvV pv)) (hpE 0 obs) (wkQ (retX obs.length rs Q)) := by
   simp only [vc, vcIs, vcI, vcOp, Go.Am.pv] at h
   obtain ⟨v, h1, h2⟩ := h
   have : v = pvV pv := by simpa [Env.ev, Env.put] using h1.symm
   subst this
   exact h2
  have hgo : ∀ x u', (∀ μ, R H μ (pvV pv) x) -> u' = e40 true u -> c.wpS P (bodyPostS P fn c₀ cs fun e u' w' => u' = e40 true u /\ ∃ r H' μ', Q r /\ JP H μ obs.length (hpE 0 obs) w r e H' μ' w') ((a.put o.dst x).put o2.dst ((a.put o.dst x).eval (.tmp s))) ({ c₀ with mode := u' } :: cs) w := by
   intro x u' hx hu'
   have hS1 : Sat ⟨n, []⟩ H μ ((bE0 0 args).put (some s) (pvV pv)) (hpE 0 obs) (a.put o.dst x) w := by rw [c4]; exact hS.put (fun t e => by injection e with e; subst e; exact c6) (hx μ)
   have hx2 : R H μ (pvV pv) ((a.put o.dst x).eval (.tmp s)) := hS1.env s _ (by simp [Env.put])
   have hS2 : Sat ⟨n, []⟩ H μ (((bE0 0 args).put (some s) (pvV pv)).put (some s2) (pvV pv)) (hpE 0 obs) ((a.put o.dst x).put o2.dst ((a.put o.dst x).eval (.tmp s))) w := by
    rw [e2]; exact hS1.put (fun t e => by injection e with e; subst e; exact e4) hx2
   refine wpS_of_wp (wp_mono (end_wp (n := n) (.of k5) k6 hS2 h') fun e a' w' hq => ?_)
   cases e with
   | normal => exact ⟨hq.1, u', rfl, by obtain ⟨v, q1, q2⟩ := hq.2; exact ⟨v, q1, hu', q2⟩⟩
   | ret => exact ⟨hq.1, u', rfl, by obtain ⟨v, q1, q2⟩ := hq.2; exact ⟨v, q1, hu', q2⟩⟩
   | panic ch => exact ⟨hq.1, u', rfl, hu', hq.2⟩
   | outgrown => exact ⟨e40 true u, rfl, hq⟩
   | exit i => exact hq.elim
   | goto l => exact hq.elim
  have step2 : ∀ (Q2 : Exit -> Act -> List Frame -> World -> Prop) a' cs' w', Q2 .normal (a'.put o2.dst (a'.eval (.tmp s))) cs' w' -> wpOpsS P #[o, o2] Q2 [1] a' cs' w' := by
   intro Q2 a' cs' w' hh
   have hw : Region.wanted o2 (yielded #[o, o2] a'.tmps) = true := by simp [Region.wanted, e3]
   have hr : (execOp a'.eval o2).run P w' = .ok (.value (a'.eval (.tmp s))) w' := by simp [execOp, e1]
   simp only [wpOpsS, List.getElem?_toArray, List.getElem?_cons_succ, List.getElem?_cons_zero, hw, if_true, hr, Oper.upon]
   exact hh
  show wpOpsS P #[o, o2] _ [0, 1] a (c₀ :: cs) w
  rw [wpOpsS]
  simp only [List.getElem?_toArray, List.getElem?_cons_zero, hwant, if_true, hrun]
  cases pv with
  | none =>
   have hu2 : u = .returning := h3
   subst hu2
   have : recoverD (c₀ :: cs) = none := by simp [recoverD, hu]
   simp only [this]
   have := hgo .nilIface .returning (fun μ => .c _) rfl
   have hc : ({ c₀ with mode := .returning } : Frame) = c₀ := by rw [<- hu]
   rw [hc] at this
   exact step2 _ _ _ _ this
  | some p =>
   obtain ⟨x, hx1, hx2⟩ := h3
   subst hx1
   have : recoverD (c₀ :: cs) = some (x, { c₀ with mode := .panicking [{ v := x, recovered := true }] } :: cs) := by simp [recoverD, hu]
   simp only [this]
   exact step2 _ _ _ _ (hgo x _ (fun μ => hx2.pure (hp p rfl) μ) rfl)
 have hwant : Region.wanted o (yielded #[o] a.tmps) = true := by simp [Region.wanted, c5]
 have hgo : ∀ x u', (∀ μ, R H μ (pvV pv) x) -> u' = e40 true u -> c.wpS P (bodyPostS P fn c₀ cs fun e u' w' => u' = e40 true u /\ ∃ r H' μ', Q r /\ JP H μ obs.length (hpE 0 obs) w r e H' μ' w') (a.put o.dst x) ({ c₀ with mode := u' } :: cs) w := by
  intro x u' hx hu'
  refine wpS_of_wp (wp_mono (end_wp (n := n) (.of k5) k6 (a := a.put o.dst x) (by rw [c4]; exact hS.put (fun t e => by injection e with e; subst e; exact c6) (hx μ)) h) fun e a' w' hq => ?_)
  cases e with
  | normal => exact ⟨hq.1, u', rfl, by obtain ⟨v, q1, q2⟩ := hq.2; exact ⟨v, q1, hu', q2⟩⟩
  | ret => exact ⟨hq.1, u', rfl, by obtain ⟨v, q1, q2⟩ := hq.2; exact ⟨v, q1, hu', q2⟩⟩
  | panic ch => exact ⟨hq.1, u', rfl, hu', hq.2⟩
  | outgrown => exact ⟨e40 true u, rfl, hq⟩
  | exit i => exact hq.elim
  | goto l => exact hq.elim
 show wpOpsS P #[o] _ [0] a (c₀ :: cs) w
 simp only [wpOpsS, List.getElem?_toArray, List.getElem?_cons_zero, hwant, if_true, hrun]
 cases pv with
 | none =>
  have hu2 : u = .returning := h3
  subst hu2
  have : recoverD (c₀ :: cs) = none := by simp [recoverD, hu]
  simp only [this]
  have := hgo .nilIface .returning (fun μ => .c _) rfl
  have hc : ({ c₀ with mode := .returning } : Frame) = c₀ := by rw [<- hu]
  rw [hc] at this
  exact this
 | some p =>
  obtain ⟨x, hx1, hx2⟩ := h3
  subst hx1
  have : recoverD (c₀ :: cs) = some (x, { c₀ with mode := .panicking [{ v := x, recovered := true }] } :: cs) := by simp [recoverD, hu]
  simp only [this]
  exact hgo x _ (fun μ => hx2.pure (hp p rfl) μ) rfl
end Go.Am
end

section
namespace Go.Am
variable {P : Program} {n : Nat} {H : Imm} {μ : Mu} {env : Env} {hp : Hp} {a : Act} {w : World}
def kN0 (P : Program) (rec : Bool) (g : FuncId) (cs : List V) (pv : Option V) (env : Env) (hp : Hp) (K : Env -> Hp -> Prop) : Prop :=
 ∃ ids : List Id, ids.Nodup /\ V.seeL false ids (Hp.frz (.tup (V.bq0 ids (cs ++ boxes hp ids))) hp) cs fun us => ∃ args, V.fD0 (toE ids 0) us = some args /\
  e20 ids (Hp.frz (.tup (V.bq0 ids (cs ++ boxes hp ids))) hp) ids fun obs => JD P rec g args obs pv fun r => match r with
   | .ret v obs' => ∃ base, fE0 env (Hp.frz (.tup (V.bq0 ids (cs ++ boxes hp ids))) hp) ids base v obs' fun _ env' hp' => K env' hp'
   | .pan _ _ => False
theorem rj0 {m : Sz} {rec : Bool} {g : FuncId} {cs : List V} {pv : Option V} {K : Env -> Hp -> Prop} {vals : Array Value} {u : FrameMode} (hS : Sat m H μ env hp a w) (hcs : RL H μ cs vals) (hu : PanOf H pv u)
  (h : kN0 P rec g cs pv env hp K) : (callFunc g vals).run P w = .ok (.enter g vals) w /\
   CallsD P g vals u w fun e u' w' => u' = e40 rec u /\ ∃ v, e = .returned v /\ ∃ env' hp' H' μ', K env' hp' /\ Sat m H' μ' env' hp' a w' /\ Nx H μ hp w H' μ' hp' w' := by
 obtain ⟨ids, hnd, h⟩ := h
 obtain ⟨H1, hle, hS1, hx1⟩ := hS.frz (.tup (V.bq0 ids (cs ++ boxes hp ids)))
 obtain ⟨us, ⟨args, hm, hh⟩, hlen, hr⟩ := je0 hS1.wd (cs := cs) (vals := vals) (off := 0) (by rw [hcs.1]; omega)
  (fun j v hj => by rw [Nat.zero_add]; exact (hcs.2 j v hj).le hle) h
 obtain ⟨obs, hJ, hol, hob⟩ := mr0 hS1.wd hh
 obtain ⟨hWc, hown⟩ := Handed.wd (ids := ids) (obs := obs) ⟨by omega, hob⟩ hS1.wd hnd
 obtain ⟨m1, m2⟩ := dN0 hm
 have hRL : RL H1 (muE ids μ) args vals := ⟨by rw [hcs.1, m1, hlen], fun j u hj => by
  obtain ⟨v, q1, q2⟩ := m2 j u hj
  have := hr j v q1
  rw [Nat.zero_add] at this
  exact this.aR0 (fun i i' h => oV0 h) q2⟩
 have hu1 : PanOf H1 pv u := by
  cases pv with
  | none => exact hu
  | some p => obtain ⟨x, e1, e2⟩ := hu; exact ⟨x, e1, e2.le hle⟩
 obtain ⟨r1, r2⟩ := hJ H1 (muE ids μ) vals w u hRL hWc hu1
 refine ⟨r1, r2.mono fun e u' w' ⟨hu', r, H', μ', hq, hjp⟩ => ⟨hu', ?_⟩⟩
 cases r with
 | ret v obs' =>
  obtain ⟨⟨x, rfl, hx⟩, q2, q3, q4, q5⟩ := hjp
  obtain ⟨base, hq⟩ := hq
  rw [hol] at q4 q5
  obtain ⟨v', env', hp', μ2, p1, p2, p3, p4, p5⟩ := Sat.join hS1 hnd hown q2 q3 q4 q5 hx hq
  exact ⟨x, rfl, env', hp', H', μ2, p1, p3, hx1.trans p4⟩
 | pan v obs' => exact hq.elim
def WkE (k : Nat) (E : Env) (h : Hp) (cs' : List V) (env : Env) (hp : Hp) (cs : List V) : Prop :=
 ∀ (n : Sz) H μ a w (vals : Array Value), Sat n H μ env hp a w -> RL H μ cs vals -> ∃ μ', Sat n H μ' E h a w /\ Nj H μ hp w H μ' h w /\ (∀ j, j < k -> μ' (.e j) = μ (.e j)) /\ RL H μ' cs' vals
theorem WkE.refl {k : Nat} {cs : List V} : WkE k env hp cs env hp cs := fun n H μ a w vals hS hv => ⟨μ, hS, (Nx.refl H μ hp w).toNj, fun _ _ => rfl, hv⟩
theorem WkE.trans {k : Nat} {E1 E2 : Env} {h1 h2 : Hp} {cs cs1 cs2 : List V} (g1 : WkE k E1 h1 cs1 env hp cs) (g2 : WkE k E2 h2 cs2 E1 h1 cs1) : WkE k E2 h2 cs2 env hp cs := fun n H μ a w vals hS hv => by
 obtain ⟨μ1, q1, q2, q3, q4⟩ := g1 n H μ a w vals hS hv
 obtain ⟨μ2, r1, r2, r3, r4⟩ := g2 n H μ1 a w vals q1 q4
 exact ⟨μ2, r1, q2.trans r2, fun j hj => (r3 j hj).trans (q3 j hj), r4⟩
theorem WkE.ren {k : Nat} {E : Env} {h : Hp} {cs cs' : List V} (i : Id) (j : Nat) (hk : k <= j) (hij : i ≠ .e j) (hE : ∀ p ∈ E, bd0 env p.1 fun v => mapK (renF i (.e j)) v (· = p.2))
  (hh : ∀ p ∈ h, p.1 ≠ i /\ objK hp (bO0 i (.e j) p.1) fun o => nO0 (renF i (.e j)) o (· = p.2)) (hc : c60 (renF i (.e j)) cs (· = cs')) : WkE k E h cs' env hp cs := fun n H μ a w vals hS hv => by
 let μ' : Mu := fun x => if x = .e j then μ i else μ x
 have hμ : ∀ x x', renF i (.e j) x = some x' -> μ' x' = μ x := by
  intro x x' hx
  unfold renF at hx
  by_cases h1 : x = i
  ·subst h1; rw [if_pos rfl] at hx; injection hx with hx; subst hx; simp [μ']
  ·rw [if_neg h1] at hx
   by_cases h2 : x = .e j
   ·rw [if_pos h2] at hx; cases hx
   ·rw [if_neg h2] at hx; injection hx with hx; subst hx; simp [μ', h2]
 have hun : ∀ x, x ≠ i -> renF i (.e j) (bO0 i (.e j) x) = some x := by
  intro x hx
  unfold renF bO0
  by_cases h1 : x = .e j
  ·subst h1; simp
  ·simp [h1, hx]
 have hob : ∀ x o, h.lookup x = some o -> x ≠ i /\ ∃ o', hp.lookup (bO0 i (.e j) x) = some o' /\ o'.aR0 (renF i (.e j)) = some o := by
  intro x o hl
  obtain ⟨h1, h2⟩ := hh (x, o) (bB0 hl)
  rw [if0] at h2
  obtain ⟨o', h3, q, h4, rfl⟩ := h2
  exact ⟨h1, o', h3, h4⟩
 have hW := hS.wd
 refine ⟨μ', ⟨hS.defers, hS.size, fun s v hs => ?_, ⟨fun x o hl => ?_, fun x y ox oy bx by' hx hox hy hoy hbx hby heq => ?_, hW.imm, hW.glo⟩⟩, ⟨Imm.le_refl H, rfl, rfl, rfl, Nat.le_refl _, fun _ _ _ => rfl, fun b hO hb => ?_, fr0⟩, fun q hq => ?_, ?_⟩
 ·have h1 := hE (s, v) (bB0 hs)
  rw [eO0] at h1
  obtain ⟨u, h2, q, h3, rfl⟩ := h1
  exact R.aR0 hμ (hS.env s u h2) h3
 ·obtain ⟨h1, o', h2, h3⟩ := hob x o hl
  exact ObOk.aR0 hμ (hμ _ _ (hun x h1)) (hW.ob _ o' h2) h3
 ·obtain ⟨h1, o1, h2, h3⟩ := hob x ox hx
  obtain ⟨k1, o2, k2, k3⟩ := hob y oy hy
  have e1 := hμ _ _ (hun x h1)
  have e2 := hμ _ _ (hun y k1)
  have := hW.inj _ _ o1 o2 bx by' h2 (by rw [<- Ob.cJ0 h3]; exact hox) k2 (by rw [<- Ob.cJ0 k3]; exact hoy) (by rw [<- e1]; exact hbx) (by rw [<- e2]; exact hby) heq
  have r1 := hun x h1
  rw [this, hun y k1] at r1
  injection r1 with r1; exact r1.symm
 ·obtain ⟨x, o, blk, h1, h2, h3, h4⟩ := hO
  obtain ⟨q1, o1, q2, q3⟩ := hob x o h1
  exact ⟨_, o1, blk, q2, by rw [<- Ob.cJ0 q3]; exact h2, by rw [<- hμ _ _ (hun x q1)]; exact h3, h4⟩
 ·have : q ≠ j := by omega
  simp [μ', this]
 ·obtain ⟨us, hc, rfl⟩ := hc
  obtain ⟨m1, m2⟩ := dN0 hc
  refine ⟨by rw [hv.1, m1], fun q v hq => ?_⟩
  obtain ⟨u, q1, q2⟩ := m2 q v hq
  exact R.aR0 hμ (hv.2 q u q1) q2
def vcF (P : Program) (k : Nat) : FCd -> Env -> Hp -> Qs -> (FuncId -> List V -> Qs) -> Prop
 | .seq c f, env, hp, Q, QD => vc P c env hp (ml0 (fun e h => vcF P k f e h Q QD) Q)
 | .ite v f g, env, hp, Q, QD => ∃ t, Env.ev env v = some (.c (.bool t)) /\ (t = true -> vcF P k f env hp Q QD) /\ (t = false -> vcF P k g env hp Q QD)
 | .plain c, env, hp, Q, _ => vc P c env hp Q
 | .dfr is t args c, env, hp, Q, QD => vcIs P env hp is (fun e h => ∃ g caps vs, Env.ev e t = some (.fn g caps) /\ args.mapM (Env.ev e) = some vs /\ ∃ E h' cs', WkE k E h' cs' e h (vs ++ caps) /\ V.kK0 cs' = true /\ vc P c E h' (QD g cs')) fun v h => Q (.pan v) [] h
def PostF (n k : Nat) (H : Imm) (μ : Mu) (hp : Hp) (w : World) (Q : Qs) (QD : FuncId -> List V -> Qs) : Exit -> Act -> World -> Prop := fun e a' w' =>
 Post ⟨n, []⟩ H μ hp w Q e a' w' \/ ∃ g cv dargs cs ex env' hp' H' μ', (RL H' μ' cs (dargs ++ cv) /\ V.kK0 cs = true) /\ QD g cs ex env' hp' /\ ex.ok H' μ' e /\ Nj H μ hp w H' μ' hp' w' /\ (∀ j, j < k -> μ' (.e j) = μ (.e j)) /\
  Sat ⟨n, [{ target := .fn (.func g) cv, args := dargs }]⟩ H' μ' env' hp' a' w'
theorem PostF.trans {k : Nat} {H1 : Imm} {μ1 : Mu} {hp1 : Hp} {w1 : World} {Q : Qs} {QD : FuncId -> List V -> Qs} {e : Exit} {a' : Act} {w' : World} (h : Nx H μ hp w H1 μ1 hp1 w1) (q : PostF n k H1 μ1 hp1 w1 Q QD e a' w') : PostF n k H μ hp w Q QD e a' w' := by
 rcases q with q | ⟨g, cv, dargs, cs, ex, env', hp', H', μ', q1, q2, q3, q4, q5, q6⟩
 ·exact .inl (Post.trans h q)
 ·exact .inr ⟨g, cv, dargs, cs, ex, env', hp', H', μ', q1, q2, q3, h.toNj.trans q4, fun j hj => (q5 j hj).trans (h.ext j), q6⟩
theorem rg0 {nz : Sz} {rest : List Nat} {ops : Array Oper} {Kp : V -> Hp -> Prop} {K : Env -> Hp -> Prop} : ∀ (m j : Nat) (is : List I) (env : Env) (hp : Hp), is.length = m ->
  (∀ (k : Nat) (i : I), is[k]? = some i -> ∃ o, ops[j + k]? = some o /\ fF0 P nz ops o = some i) -> vcIs P env hp is K Kp ->
  ∀ H μ a w (Q : Exit -> Act -> World -> Prop), Sat nz H μ env hp a w ->
   (∀ v x hp' H' μ' a' w', Kp v hp' -> R H' μ' v x -> Nx H μ hp w H' μ' hp' w' -> Wd H' μ' hp' w' -> a'.defers = nz.ds -> a'.tmps.size = nz.n -> Q (.panic [{ v := x, recovered := false }]) a' w') ->
   (∀ env' hp' H' μ' a' w', K env' hp' -> Sat nz H' μ' env' hp' a' w' -> Nx H μ hp w H' μ' hp' w' -> wpOps P ops Q rest a' w') ->
   wpOps P ops Q (List.range' j m ++ rest) a w := by
 intro m
 induction m with
 | zero =>
  intro j is env hp hl hget h H μ a w Q hS hQp hQ
  have : is = [] := List.eq_nil_of_length_eq_zero hl
  subst this
  exact hQ env hp H μ a w h hS (Nx.refl H μ hp w)
 | succ m ih =>
  intro j is env hp hl hget h H μ a w Q hS hQp hQ
  cases is with
  | nil => simp at hl
  | cons i is =>
   simp only [vcIs] at h
   obtain ⟨o, ho, hc⟩ := hget 0 i rfl
   rw [Nat.add_zero] at ho
   rw [List.range'_succ, List.cons_append, wpOps_cons]
   refine wpOp_mono (fun a' w' ⟨env', hp', H', μ', h1, h2, h3, hk⟩ => ?_) (rU0 ho hc h H μ a w Q hS fun v x hp' H' μ' w' k1 k2 k3 k4 => hQp v x hp' H' μ' a w' k1 k2 k3 k4 hS.defers hS.size)
   exact ih (j + 1) is env' hp' (by simpa using hl) (fun k i' hk => by
    have := hget (k + 1) i' (by simpa using hk)
    rwa [show j + (k + 1) = j + 1 + k by omega] at this) h1 H' μ' a' w' Q h2
    (fun v x hp'' H'' μ'' a'' w'' k1 k2 k3 k4 k5 k6 => hQp v x hp'' H'' μ'' a'' w'' k1 k2 (h3.trans k3) k4 k5 k6)
    (fun env'' hp'' H'' μ'' a'' w'' k1 k2 k3 => hQ env'' hp'' H'' μ'' a'' w'' k1 k2 (h3.trans k3))
theorem pR0 {ops : Array Oper} {t : Operand} {args : List Operand} (h : oP0 ops = some (t, args)) : ∃ o at1, ops.toList = ops.toList.dropLast ++ [o] /\ o.op = .defer ⟨.value t, args.toArray, at1⟩ /\ o.dst = none /\ o.guard = none := by
 unfold oP0 at h
 split at h
 ·rename_i o ho
  split at h
  ·rename_i t' args' at1 h1 h2 h3
   simp only [Option.some.injEq, Prod.mk.injEq] at h
   obtain ⟨rfl, rfl⟩ := h
   exact ⟨o, at1, by obtain ⟨ys, e⟩ := List.getLast?_eq_some_iff.1 ho; rw [e]; simp, by simpa using h1, h2, h3⟩
  ·cases h
 ·cases h
abbrev Cont := (Exit -> Act -> World -> Prop) -> Act -> World -> Prop
def rX0 (W : Cont) : Prop := ∀ Q Q' a w, W Q a w -> (∀ e a w, Q e a w -> Q' e a w) -> W Q' a w
def ContP (P : Program) (n : Nat) (y : Option Cd) (W : Cont) : Prop := ∀ c, y = some c -> ∀ (ds : List Deferred) (env : Env) (hp : Hp) (Q : Qs), vc P c env hp Q -> ∀ H μ a w, Sat ⟨n, ds⟩ H μ env hp a w -> W (Post ⟨n, ds⟩ H μ hp w Q) a w
def qA0 (P : Program) (n k : Nat) (f : Option FCd) (W : Cont) : Prop := ∀ c, f = some c -> ∀ (env : Env) (hp : Hp) (Q : Qs) (QD : FuncId -> List V -> Qs), vcF P k c env hp Q QD -> ∀ H μ a w, Sat ⟨n, []⟩ H μ env hp a w -> W (PostF n k H μ hp w Q QD) a w
def Cont.of (P : Program) (c : Code) (W : Cont) : Cont := fun Q a w => c.wp P (Exit.then (W Q) Q) a w
theorem Cont.of_mono {c : Code} {W : Cont} (hm : rX0 W) : rX0 (Cont.of P c W) := fun Q Q' a w h hq => wp_mono h fun e a' w' h1 => by
 cases e with
 | normal => exact hm _ _ _ _ h1 hq
 | exit id => exact hq _ _ _ h1
 | goto l => exact hq _ _ _ h1
 | ret => exact hq _ _ _ h1
 | panic ch => exact hq _ _ _ h1
 | outgrown => exact hq _ _ _ h1
theorem eH0 {k : Nat} {W : Cont} {x : Code} {cx : Cd} {f : FCd} {fo : Option FCd} (hfo : fo = some f) (hm : rX0 W) (hF : qA0 P n k fo W) (hx : ci0 P n x = some cx) : qA0 P n k (some (.seq cx f)) (Cont.of P x W) := by
 intro c hc env hp Q QD h H μ a w hS
 injection hc with hc; subst hc
 refine wp_mono (vc_ok (n := ⟨n, []⟩) hx h H μ a w hS) fun e a' w' hpo => ?_
 obtain ⟨ex, env', hp', H', μ', q1, q2, q3, q4⟩ := hpo
 cases ex with
 | normal =>
  have : e = .normal := (hO0 q2).2 rfl
  subst this
  exact hm _ _ _ _ (hF f hfo _ _ _ _ q1 H' μ' a' w' q4) fun e a'' w'' hh => hh.trans q3
 | exit i => cases e <;> simp only [Ex.ok] at q2; exact .inl ⟨.exit i, env', hp', H', μ', q1, q2, q3, q4⟩
 | ret => cases e <;> simp only [Ex.ok] at q2; exact .inl ⟨.ret, env', hp', H', μ', q1, trivial, q3, q4⟩
 | pan v => cases e <;> simp only [Ex.ok] at q2; exact .inl ⟨.pan v, env', hp', H', μ', q1, q2, q3, q4⟩
theorem fpush_dfr {k : Nat} {W : Cont} {id : Nat} {ops : Array Oper} {t : Operand} {args : List Operand} {is : List I} {cy : Cd} {y : Option Cd} (hy : y = some cy) (hm : rX0 W) (hP : ContP P n y W) (hl : oP0 ops = some (t, args))
  (hi : nD0 P n ops ops.toList.dropLast = some is) : qA0 P n k (some (.dfr is t args cy)) (Cont.of P (.region id ops false) W) := by
 intro c hc env hp Q QD h H μ a w hS
 injection hc with hc; subst hc
 obtain ⟨o, at1, l1, l2, l3, l4⟩ := pR0 hl
 obtain ⟨r1, r2⟩ := hw0 (n := ⟨n, []⟩) hi
 have hsz : ops.size = is.length + 1 := by
  have := congrArg List.length l1
  rw [r1]; simpa using this
 have hlast : ops[is.length]? = some o := by
  have : ops.toList[is.length]? = some o := by rw [l1, r1]; simp
  simpa using this
 refine wp_region ?_
 rw [List.range_eq_range', hsz, List.range'_1_concat, Nat.zero_add]
 refine rg0 (nz := ⟨n, []⟩) is.length 0 is env hp rfl (fun k i hk => ?_) h H μ a w _ hS (fun v x hp' H' μ' a' w' k1 k2 k3 k4 k5 k6 => ?_) (fun env' hp' H' μ' a' w' k1 k2 k3 => ?_)
 ·have hk' : k < ops.toList.dropLast.length := by rw [<- r1]; exact (List.getElem?_eq_some_iff.1 hk).1
  obtain ⟨i', h1, h2⟩ := r2 k ops.toList.dropLast[k] (List.getElem?_eq_getElem hk')
  rw [hk] at h1; injection h1 with h1; subst h1
  refine ⟨_, ?_, h2⟩
  rw [Nat.zero_add]
  have : ops.toList[k]? = some ops.toList.dropLast[k] := by
   conv => lhs; rw [l1]
   rw [List.getElem?_append_left hk', List.getElem?_eq_getElem hk']
  simp
 ·exact .inl ⟨.pan v, [], hp', H', μ', k1, ⟨x, rfl, k2⟩, k3, Sat.bare k5 k6 k4⟩
 ·obtain ⟨g, caps, vs, g1, g2, E, h', cs', g3, g4, g5⟩ := k1
  obtain ⟨cv, ef, hcv⟩ := mM0 (cc0 k2 g1)
  have hargs := lB0 (rho k2) args vs g2
  have hall := hargs.append hcv
  obtain ⟨μ2, s1, s2, s3, s4⟩ := g3 _ H' μ' a' w' _ k2 hall
  rw [wpOps_cons]
  unfold wpOp
  simp only [hlast]
  have hw : Region.wanted o (yielded ops a'.tmps) = true := by simp [Region.wanted, l4]
  rw [if_pos hw]
  refine .inl ?_
  unfold Oper.wp
  have hrun : (execOp a'.eval o).run P w' = .ok (.defer { target := .fn (.func g) cv, args := args.toArray.map a'.eval }) w' := by
   simp [execOp, l2, resolve, ef, Deferred.ofValue]
  rw [hrun]
  simp only [Oper.upon, l3]
  show W _ _ _
  have hd : a'.defers = [] := k2.defers
  have hS2 : Sat ⟨n, [{ target := .fn (.func g) cv, args := args.toArray.map a'.eval }]⟩ H' μ2 E h' { a' with defers := { target := .fn (.func g) cv, args := args.toArray.map a'.eval } :: a'.defers } w' :=
   ⟨by simp [hd], s1.size, s1.env, s1.wd⟩
  refine hm _ _ _ _ (hP _ hy _ _ _ _ g5 H' μ2 _ w' hS2) fun e a'' w'' hpo => ?_
  obtain ⟨ex, env2, hp2, H2, μ3, q1, q2, q3, q4⟩ := hpo
  refine .inr ⟨g, cv, _, cs', ex, env2, hp2, H2, μ3, ⟨?_, g4⟩, q1, q2, (k3.toNj.trans s2).trans q3.toNj, fun j hj => (q3.ext j).trans ((s3 j hj).trans (k3.ext j)), q4⟩
  refine ⟨s4.1, fun q v hq => (s4.2 q v hq).mono q3.imm fun i hi => ?_⟩
  obtain ⟨j, rfl⟩ := V.hg0 g4 (V.gS0 hq hi)
  exact q3.ext j
theorem fpush_ok {k : Nat} : ∀ (c : Code) {W : Cont} {y : Option Cd} {f : Option FCd}, rX0 W -> ContP P n y W -> qA0 P n k f W -> qA0 P n k (kX0 P n c y f) (Cont.of P c W) := by
 intro c
 induction c with
 | seq a b iha ihb =>
  intro W y f hm hP hF
  have hb : qA0 P n k (kX0 P n b y f) (Cont.of P b W) := ihb hm hP hF
  have hPb : ContP P n (seqO (ci0 P n b) y) (Cont.of P b W) := by
   intro c hc ds env hp Q h H μ a w hS
   cases h1 : ci0 P n b with
   | none => rw [h1] at hc; simp [seqO] at hc
   | some cb =>
    rw [h1] at hc
    cases y with
    | none => simp [seqO] at hc
    | some cy =>
    simp only [seqO, Option.some.injEq] at hc; subst hc
    refine wp_mono (vc_ok (n := ⟨n, ds⟩) h1 h H μ a w hS) fun e a' w' hpo => ?_
    obtain ⟨ex, env', hp', H', μ', q1, q2, q3, q4⟩ := hpo
    cases ex with
    | normal =>
     have : e = .normal := (hO0 q2).2 rfl
     subst this
     exact hm _ _ _ _ (hP cy rfl ds _ _ _ q1 H' μ' a' w' q4) fun e a'' w'' hh => hh.trans q3
    | exit i => cases e <;> simp only [Ex.ok] at q2; exact ⟨.exit i, env', hp', H', μ', q1, q2, q3, q4⟩
    | ret => cases e <;> simp only [Ex.ok] at q2; exact ⟨.ret, env', hp', H', μ', q1, trivial, q3, q4⟩
    | pan v => cases e <;> simp only [Ex.ok] at q2; exact ⟨.pan v, env', hp', H', μ', q1, q2, q3, q4⟩
  have := iha (Cont.of_mono hm) hPb hb
  intro c hc env hp Q QD h H μ a' w hS
  have h1 := this c hc env hp Q QD h H μ a' w hS
  refine wp_seq (wp_mono h1 fun e a'' w'' h2 => ?_)
  cases e with
  | normal => exact h2
  | exit id => exact h2
  | goto l => exact h2
  | ret => exact h2
  | panic ch => exact h2
  | outgrown => exact h2
 | region id ops d =>
  intro W y f hm hP hF
  cases d with
  | false =>
   intro c hc
   unfold kX0 at hc
   split at hc
   ·rename_i t args hl
    split at hc
    ·rename_i is cy hi
     injection hc with hc; subst hc
     exact fpush_dfr rfl hm hP hl hi _ rfl
    ·cases hc
   ·split at hc
    ·rename_i cx g hx
     injection hc with hc; subst hc
     exact eH0 rfl hm hF hx _ rfl
    ·cases hc
  | true =>
   intro c hc
   unfold kX0 at hc
   split at hc
   ·rename_i cx g hx
    injection hc with hc; subst hc
    exact eH0 rfl hm hF hx _ rfl
   ·cases hc
 | cond v a b iha ihb =>
  intro W y f hm hP hF c hc
  unfold kX0 at hc
  split at hc
  ·rename_i cx g hx
   injection hc with hc; subst hc
   exact eH0 rfl hm hF hx _ rfl
  ·split at hc
   ·rename_i g h hg hh
    injection hc with hc; subst hc
    intro env hp Q QD hv H μ a' w hS
    obtain ⟨t, h1, h2, h3⟩ := hv
    have ev := (cc0 hS h1).bP0
    refine wp_cond ev ?_
    cases t with
    | true => exact iha hm hP hF g hg env hp Q QD (h2 rfl) H μ a' w hS
    | false => exact ihb hm hP hF h hh env hp Q QD (h3 rfl) H μ a' w hS
   ·cases hc
 | block id x _ =>
  intro W y f hm hP hF c hc
  unfold kX0 at hc
  split at hc
  ·rename_i cx g hx
   injection hc with hc; subst hc
   exact eH0 rfl hm hF hx _ rfl
  ·cases hc
 | loop x _ =>
  intro W y f hm hP hF c hc
  unfold kX0 at hc
  split at hc
  ·rename_i cx g hx
   injection hc with hc; subst hc
   exact eH0 rfl hm hF hx _ rfl
  ·cases hc
 | skip =>
  intro W y f hm hP hF c hc env hp Q QD h H μ a w hS
  exact wp_skip (hF c hc env hp Q QD h H μ a w hS)
 | ret =>
  intro W y f hm hP hF c hc
  unfold kX0 at hc
  split at hc
  ·injection hc with hc; subst hc
   exact eH0 rfl hm hF (by rfl) _ rfl
  ·cases hc
 | _ => intro W y f hm hP hF c hc; simp [kX0] at hc
theorem vcF_ok {k : Nat} {c : Code} {fc : FCd} (hc : fcomp P n c = some fc) {env : Env} {hp : Hp} {Q : Qs} {QD : FuncId -> List V -> Qs} (h : vcF P k fc env hp Q QD) :
  ∀ H μ a w, Sat ⟨n, []⟩ H μ env hp a w -> c.wp P (PostF n k H μ hp w Q QD) a w := by
 intro H μ a w hS
 have hm : rX0 (fun Q a w => Q .normal a w) := fun Q Q' a w h hq => hq _ _ _ h
 have hP : ContP P n (some .skip) (fun Q a w => Q .normal a w) := fun c hc ds env hp Q h H μ a w hS => by
  injection hc with hc; subst hc
  exact ⟨.normal, env, hp, H, μ, h, trivial, Nx.refl H μ hp w, hS⟩
 have hF : qA0 P n k (some (.plain .skip)) (fun Q a w => Q .normal a w) := fun c hc env hp Q QD h H μ a w hS => by
  injection hc with hc; subst hc
  exact .inl ⟨.normal, env, hp, H, μ, h, trivial, Nx.refl H μ hp w, hS⟩
 refine wp_mono (fpush_ok c hm hP hF fc hc env hp Q QD h H μ a w hS) fun e a' w' h2 => ?_
 cases e with
 | normal => exact h2
 | exit id => exact h2
 | goto l => exact h2
 | ret => exact h2
 | panic ch => exact h2
 | outgrown => exact h2
end Go.Am
end

section
namespace Go.Am
variable {P : Program} {n : Nat} {H : Imm} {μ : Mu} {env : Env} {hp : Hp} {a : Act} {w : World}
def dEnd (P : Program) (k : Nat) (rs : List IOp) (Q : Res -> Prop) (rec : Bool) (g : FuncId) (cs : List V) : Qs
 | .normal, env, hp | .ret, env, hp => ∃ E h, Wk E h env hp /\ kN0 P rec g cs none E h fun env' hp' => ∃ E' h', Wk E' h' env' hp' /\ retX k rs Q .ret E' h'
 | .pan p, env, hp => p.pure = true /\ ∃ E h, Wk E h env hp /\ kN0 P rec g cs (some p) E h fun env' hp' => match rec with
  | true => ∃ E' h', Wk E' h' env' hp' /\ retX k rs Q .ret E' h'
  | false => retX k rs Q (.pan p) env' hp'
 | .exit _, _, _ => False
theorem lx0 {m : Sz} {fn : Func} {rs : List IOp} {k : Nat} {Q : Res -> Prop} {H0 : Imm} {μ0 : Mu} {hp0 : Hp} {w0 : World} (k6 : gx0 P fn.results.toList = some rs) (hS : Sat m H μ env hp a w)
  (hN : Nj H0 μ0 hp0 w0 H μ hp w) (hext : ∀ j, j < k -> μ (.e j) = μ0 (.e j)) (h : ∃ E' h', Wk E' h' env hp /\ retX k rs Q .ret E' h') :
  Leaves P fn a.tmps (fun e w' => ∃ r H' μ', Q r /\ JP H0 μ0 k hp0 w0 r e H' μ' w') [] .returning w := by
 obtain ⟨E, h', hwk, h⟩ := h
 obtain ⟨H2, μ2, r1, r2⟩ := hwk m H μ a w hS
 obtain ⟨x, x1, x2⟩ := fin_ret k6 r1 (hN.trans r2.toNj) (fun j hj => (r2.ext j).trans (hext j hj)) h
 exact ⟨x, x1, x2⟩
theorem J_dfr {f : FuncId} {fc : FCd} {rs : List IOp} {args : List V} {obs : List Ob} {Q : Res -> Prop} (rec : Bool) (hf : FnD P f n fc rs) (hlen : args.length <= n)
  (h : vcF P obs.length fc (bE0 0 args) (hpE 0 obs) (wkQ (retX obs.length rs Q)) (dEnd P obs.length rs Q rec)) : J P f args obs Q := by
 intro H μ vs w h1 h2
 obtain ⟨fn, c, k1, k2, k3, k4, k5, k6⟩ := hf.ex
 have hrun : (callFunc f vs).run P w = .ok (.enter f vs) w := by
  have k2' : ¬ fn.name = "runtime.NumGoroutine" := by simpa using k2
  simp [callFunc, k1, k2', k3]
 unfold dF0
 rw [hrun]
 refine calls_of_wp_defers k1 k3 ?_
 rw [k4]
 have hS := nn0 (w := w) (hp := hpE 0 obs) hlen h1 h2
 refine wp_mono (vcF_ok (k := obs.length) k5 h H μ _ w hS) fun e a' w' hpo => ?_
 rcases hpo with hpo | hpo
 ·obtain ⟨ex, env', hp', H', μ', q1, q2, q3, q4⟩ := hpo
  have hd : a'.defers = [] := q4.defers
  have hret : ex = .normal \/ ex = .ret -> Leaves P fn a'.tmps (fun e w' => ∃ r H' μ', Q r /\ JP H μ obs.length (hpE 0 obs) w r e H' μ' w') [] .returning w' := by
   intro q
   refine lx0 k6 q4 q3.toNj (fun j _ => q3.ext j) ?_
   rcases q with rfl | rfl
   ·obtain ⟨E, h, r1, r2⟩ := q1; exact ⟨E, h, r1, r2⟩
   ·exact q1
  cases ex with
  | normal => cases e <;> simp only [Ex.ok] at q2; simp only [bodyPostD, hd]; exact hret (.inl rfl)
  | ret => cases e <;> simp only [Ex.ok] at q2; simp only [bodyPostD, hd]; exact hret (.inr rfl)
  | exit i => exact q1.elim
  | pan v =>
   cases e <;> simp only [Ex.ok] at q2
   obtain ⟨x, rfl, hx⟩ := q2
   simp only [bodyPostD, hd]
   exact qM0 (env := env') (rs := rs) hx q4.wd q3.toNj (fun j _ => q3.ext j) q1
 ·obtain ⟨g, cv, dargs, cs, ex, env', hp', H', μ', ⟨q0, qe⟩, q1, q2, q3, q5, q4⟩ := hpo
  have hd : a'.defers = [{ target := .fn (.func g) cv, args := dargs }] := q4.defers
  have wk : ∀ {E : Env} {h : Hp}, Wk E h env' hp' -> ∃ H2 μ2, Sat ⟨n, [{ target := .fn (.func g) cv, args := dargs }]⟩ H2 μ2 E h a' w' /\ Nx H' μ' hp' w' H2 μ2 h w' /\ RL H2 μ2 cs (dargs ++ cv) := by
   intro E h hwk
   obtain ⟨H2, μ2, r1, r2⟩ := hwk _ H' μ' a' w' q4
   refine ⟨H2, μ2, r1, r2, q0.1, fun q v hq => (q0.2 q v hq).mono r2.imm fun i hi => ?_⟩
   obtain ⟨j, rfl⟩ := V.hg0 qe (V.gS0 hq hi)
   exact r2.ext j
  have hinv : (callFunc g (dargs ++ cv)).run P w' = .ok (.enter g (dargs ++ cv)) w' -> (invoke (.fn (.func g) cv) dargs).run P w' = .ok (.enter g (dargs ++ cv)) w' := fun h => h
  have hret : (∃ E h, Wk E h env' hp' /\ kN0 P rec g cs none E h fun env' hp' => ∃ E' h', Wk E' h' env' hp' /\ retX obs.length rs Q .ret E' h') ->
    Leaves P fn a'.tmps (fun e w' => ∃ r H' μ', Q r /\ JP H μ obs.length (hpE 0 obs) w r e H' μ' w') a'.defers .returning w' := by
   rintro ⟨E, h, r1, r2⟩
   obtain ⟨H5, μ2, s1, s2, s3⟩ := wk r1
   obtain ⟨t1, t2⟩ := rj0 (pv := none) s1 s3 (u := .returning) rfl r2
   rw [hd]
   refine leaves_cons (by simp) (hinv t1) (t2.mono fun e u' w'' hq => ?_)
   obtain ⟨hu, v, rfl, env2, hp2, H2, μ3, p1, p2, p3⟩ := hq
   have : settle u' = .returning := by rw [hu]; cases rec <;> rfl
   simp only [this]
   exact lx0 k6 p2 ((q3.trans s2.toNj).trans p3.toNj) (fun j hj => (p3.ext j).trans ((s2.ext j).trans (q5 j hj))) p1
  cases ex with
  | normal => cases e <;> simp only [Ex.ok] at q2; exact hret q1
  | ret => cases e <;> simp only [Ex.ok] at q2; exact hret q1
  | exit i => exact q1.elim
  | pan p =>
   cases e <;> simp only [Ex.ok] at q2
   obtain ⟨x, rfl, hx⟩ := q2
   obtain ⟨hp, E, h, r1, r2⟩ := q1
   obtain ⟨H5, μ2, s1, s2, s3⟩ := wk r1
   have hx0 : R H5 Mu.bot p x := (hx.pure hp Mu.bot).le s2.imm
   obtain ⟨t1, t2⟩ := rj0 (pv := some p) s1 s3 (u := .panicking [{ v := x, recovered := false }]) ⟨x, rfl, hx0⟩ r2
   simp only [bodyPostD, hd]
   refine leaves_cons (by simp) (hinv t1) (t2.mono fun e u' w'' hq => ?_)
   obtain ⟨hu, v, rfl, env2, hp2, H2, μ3, p1, p2, p3⟩ := hq
   have hN := (q3.trans s2.toNj).trans p3.toNj
   have hE : ∀ j, j < obs.length -> μ3 (.e j) = μ (.e j) := fun j hj => (p3.ext j).trans ((s2.ext j).trans (q5 j hj))
   cases rec with
   | true =>
    have : settle u' = .returning := by rw [hu]; rfl
    simp only [this]
    exact lx0 k6 p2 hN hE p1
   | false =>
    have : settle u' = .panicking [{ v := x, recovered := false }] := by rw [hu]; rfl
    simp only [this]
    exact qM0 (env := env2) (rs := rs) ((hx0.pure hp μ3).le p3.imm) p2.wd hN hE p1
end Go.Am
end

section
namespace Go.Am
variable {P : Program} {env : Env} {hp : Hp}
@[simp] theorem intO_tmp {t : Nat} {d : Int} {K : Int -> Prop} : intO (some (Env.ev env (.tmp t))) d K = bd0 env t (hold fun v => intK v (hold fun _ n => K n)) := by
 simp only [eO0, hold]
 show intO (some (env.lookup t)) d K = _
 cases h : env.lookup t with
 | none => simp [intO]
 | some v => cases v with
  | c x => cases x <;> simp [intO, intK]
  | _ => simp [intO, intK]
@[simp] theorem intO_const {k : IntKind} {i d : Int} {K : Int -> Prop} : intO (some (Env.ev env (.const (.int k i)))) d K = K i := _root_.id rfl
theorem aP0 {xs : List (List V)} {k : Nat} {e : List V} {K : List V -> Prop} (h : xs[k]? = some e) : fZ0 xs k K = K e := by simp [fZ0, h]
theorem endP {k : Nat} {rs : List IOp} {Q : Res -> Prop} {v : V} (h : outV hp (esL 0 k) v (hold fun u obs => Q (.pan u obs))) : wkQ (retX k rs Q) (.pan v) env hp := h
@[simp high] theorem nth_lit0 {α : Type} {x0 : α} {l : List α} : (x0 :: l)[0]? = some x0 := rfl
@[simp high] theorem nth_lit1 {α : Type} {x0 x1 : α} {l : List α} : (x0 :: x1 :: l)[1]? = some x1 := rfl
@[simp high] theorem nth_lit2 {α : Type} {x0 x1 x2 : α} {l : List α} : (x0 :: x1 :: x2 :: l)[2]? = some x2 := rfl
@[simp high] theorem nth_lit3 {α : Type} {x0 x1 x2 x3 : α} {l : List α} : (x0 :: x1 :: x2 :: x3 :: l)[3]? = some x3 := rfl
@[simp high] theorem nth_lit4 {α : Type} {x0 x1 x2 x3 x4 : α} {l : List α} : (x0 :: x1 :: x2 :: x3 :: x4 :: l)[4]? = some x4 := rfl
@[simp high] theorem nth_lit5 {α : Type} {x0 x1 x2 x3 x4 x5 : α} {l : List α} : (x0 :: x1 :: x2 :: x3 :: x4 :: x5 :: l)[5]? = some x5 := rfl
@[simp high] theorem nth_lit6 {α : Type} {x0 x1 x2 x3 x4 x5 x6 : α} {l : List α} : (x0 :: x1 :: x2 :: x3 :: x4 :: x5 :: x6 :: l)[6]? = some x6 := rfl
@[simp high] theorem nth_lit7 {α : Type} {x0 x1 x2 x3 x4 x5 x6 x7 : α} {l : List α} : (x0 :: x1 :: x2 :: x3 :: x4 :: x5 :: x6 :: x7 :: l)[7]? = some x7 := rfl
@[simp high] theorem nth_lit8 {α : Type} {x0 x1 x2 x3 x4 x5 x6 x7 x8 : α} {l : List α} : (x0 :: x1 :: x2 :: x3 :: x4 :: x5 :: x6 :: x7 :: x8 :: l)[8]? = some x8 := rfl
@[simp high] theorem nth_lit9 {α : Type} {x0 x1 x2 x3 x4 x5 x6 x7 x8 x9 : α} {l : List α} : (x0 :: x1 :: x2 :: x3 :: x4 :: x5 :: x6 :: x7 :: x8 :: x9 :: l)[9]? = some x9 := rfl
end Go.Am
end

section
namespace Go.Am
variable {P : Program}
theorem JP.congr {H : Imm} {μ : Mu} {k : Nat} {hp hq : Hp} {w : World} (ho : ∀ b, Owns hq μ b ↔ Owns hp μ b) {r : Res} {e : Ending} {H' : Imm} {μ' : Mu} {w' : World} (h : JP H μ k hp w r e H' μ' w') : JP H μ k hq w r e H' μ' w' := by
 have nj : ∀ {hp' : Hp}, Nj H μ hp w H' μ' hp' w' -> Nj H μ hq w H' μ' hp' w' := fun n =>
  ⟨n.imm, n.os, n.tape, n.output, n.size, fun b hb hno => n.keep b hb fun h => hno ((ho b).2 h), fun b h hb => (ho b).2 (n.own b h hb), fun b cs h h0 => (n.fresh b cs h h0).imp id (ho b).2⟩
 cases r with
 | ret v obs => exact ⟨h.1, nj h.2.1, h.2.2⟩
 | pan v obs => exact ⟨h.1, nj h.2.1, h.2.2⟩
def rest (vals : Array Value) (sz k m : Nat) : List (List V) := (List.range m).map fun j => (List.range sz).map fun q => V.c (vals.getD ((k + j) * sz + q) undef)
def preO (o' o : Ob) : Prop := o' = o \/ ∃ ty sz own xs t, o = .row ty sz own (xs ++ t) /\ o' = .row ty sz own xs
theorem preO_row {ty sz : Nat} {own : Bool} {xs t ys : List (List V)} (h : ys = xs ++ t) : preO (.row ty sz own xs) (.row ty sz own ys) := .inr ⟨ty, sz, own, xs, t, by rw [h], rfl⟩
theorem ObOk.pre {H : Imm} {μ : Mu} {w : World} {i : Id} {o o' : Ob} (h : ObOk H μ w i o) (hp : preO o' o) : ObOk H μ w i o' /\ o'.own = o.own := by
 rcases hp with rfl | ⟨ty, sz, own, xs, t, rfl, rfl⟩
 ·exact ⟨h, rfl⟩
 ·refine ⟨?_, rfl⟩
  rcases h with ⟨h1, h2⟩ | ⟨blk, vals, h1, h2, h3, h4, h5, h6, h7, h8, h9⟩
  ·exact .inl ⟨(List.append_eq_nil_iff.1 h1).1, h2⟩
  ·have get : ∀ (k : Nat) (e : List V), xs[k]? = some e -> (xs ++ t)[k]? = some e := fun k e he => by
    rw [List.getElem?_append_left (List.getElem?_eq_some_iff.1 he).1]; exact he
   exact .inr ⟨blk, vals, h1, h2, h3, h4, by simp at h5; omega, fun k e he => h6 k e (get k e he), h7, h8, fun k e he => h9 k e (get k e he)⟩
theorem Wk.pre {env E : Env} {hp h : Hp} (hE : ∀ p ∈ E, bd0 env p.1 (· = p.2)) (hh : ∀ p ∈ h, objK hp p.1 fun o => preO p.2 o) : Wk E h env hp := fun n H μ a w hS => by
 have hob : ∀ i o, h.lookup i = some o -> ∃ o', hp.lookup i = some o' /\ preO o o' := by
  intro i o hl
  have := hh (i, o) (bB0 hl)
  rw [if0] at this
  exact this
 have hW := hS.wd
 refine ⟨H, μ, ⟨hS.defers, hS.size, fun s v hs => ?_, ⟨fun i o hl => ?_, fun i j oi oj bi bj hi hoi hj hoj hbi hbj e => ?_, hW.imm, hW.glo⟩⟩, ⟨⟨Imm.le_refl H, rfl, rfl, rfl, Nat.le_refl _, fun _ _ _ => rfl, fun b hO _ => ?_, fr0⟩, fun _ => rfl⟩⟩
 ·have h1 := hE (s, v) (bB0 hs)
  rw [eO0] at h1
  obtain ⟨u, h2, rfl⟩ := h1
  exact hS.env s u h2
 ·obtain ⟨o', h1, h2⟩ := hob i o hl
  exact ((hW.ob i o' h1).pre h2).1
 ·obtain ⟨o1, h1, h2⟩ := hob i oi hi
  obtain ⟨o2, k1, k2⟩ := hob j oj hj
  exact hW.inj i j o1 o2 bi bj h1 (by rw [<- ((hW.ob i o1 h1).pre h2).2]; exact hoi) k1 (by rw [<- ((hW.ob j o2 k1).pre k2).2]; exact hoj) hbi hbj e
 ·obtain ⟨i, o, blk, h1, h2, h3, h4⟩ := hO
  obtain ⟨o', k1, k2⟩ := hob i o h1
  exact ⟨i, o', blk, k1, by rw [<- ((hW.ob i o' k1).pre k2).2]; exact h2, h3, h4⟩
end Go.Am
end

section
namespace Go.Am
variable {P : Program} {env : Env} {hp : Hp}
def dfrS (P : Program) (k : Nat) (t : Operand) (args : List Operand) (c : Cd) (QD : FuncId -> List V -> Qs) (e : Env) (h : Hp) : Prop :=
 ∃ g caps vs, Env.ev e t = some (.fn g caps) /\ args.mapM (Env.ev e) = some vs /\ ∃ E h' cs', WkE k E h' cs' e h (vs ++ caps) /\ V.kK0 cs' = true /\ vc P c E h' (QD g cs')
theorem fm0 {k c f Q QD} : vcF P k (.seq c f) env hp Q QD = vc P c env hp (hold (ml0 (fun e h => vcF P k f e h Q QD) Q)) := _root_.id rfl
theorem nw0 {k v f g Q QD} : vcF P k (.ite v f g) env hp Q QD = evK env v (hold fun u => bz0 u (hold fun t => (t = true -> vcF P k f env hp Q QD) /\ (t = false -> vcF P k g env hp Q QD))) := by
 simp only [vcF, hold, bR0, ox0]
theorem jo0 {k c Q QD} : vcF P k (.plain c) env hp Q QD = vc P c env hp Q := _root_.id rfl
theorem fl0 {k is t args c Q QD} : vcF P k (.dfr is t args c) env hp Q QD = vcIs P env hp is (hold fun e h => dfrS P k t args c QD e h) (hold fun v h => Q (.pan v) [] h) := _root_.id rfl
theorem oD0 {k t args c QD} {g : FuncId} {caps vs cs' : List V} {E : Env} {h' : Hp} (h1 : Env.ev env t = some (.fn g caps)) (h2 : args.mapM (Env.ev env) = some vs) (hw : WkE k E h' cs' env hp (vs ++ caps)) (ha : V.kK0 cs' = true)
  (h : vc P c E h' (QD g cs')) : dfrS P k t args c QD env hp := ⟨g, caps, vs, h1, h2, E, h', cs', hw, ha, h⟩
theorem JD.mono {rec : Bool} {f : FuncId} {args : List V} {obs : List Ob} {pv : Option V} {Q Q' : Res -> Prop} (h : JD P rec f args obs pv Q) (hq : ∀ r, Q r -> Q' r) : JD P rec f args obs pv Q' := fun H μ vs w u h1 h2 h3 => by
 obtain ⟨k1, k2⟩ := h H μ vs w u h1 h2 h3
 refine ⟨k1, k2.mono fun e u' w' ⟨q1, r, H', μ', q2, q3⟩ => ⟨q1, r, H', μ', hq r q2, q3⟩⟩
def dJ (P : Program) (rec : Bool) (g : FuncId) (args : List V) (obs : List Ob) (pv : Option V) (env : Env) (hp : Hp) (ids : List Id) (K : Env -> Hp -> Prop) : Prop :=
 JD P rec g args obs pv fun r => match r with
  | .ret v obs' => ∃ base, fE0 env hp ids base v obs' fun _ env' hp' => K env' hp'
  | .pan _ _ => False
theorem d00 {rec : Bool} {g : FuncId} {cs : List V} {pv : Option V} {K : Env -> Hp -> Prop} (ids : List Id) (hnd : ids.Nodup)
  (h : V.seeL false ids (Hp.frz (.tup (V.bq0 ids (cs ++ boxes hp ids))) hp) cs (hold fun us => c60 (toE ids 0) us (hold fun args =>
   e20 ids (Hp.frz (.tup (V.bq0 ids (cs ++ boxes hp ids))) hp) ids (hold fun obs => dJ P rec g args obs pv env (Hp.frz (.tup (V.bq0 ids (cs ++ boxes hp ids))) hp) ids K)))) : kN0 P rec g cs pv env hp K :=
 ⟨ids, hnd, h⟩
theorem lW0 {rec : Bool} {g : FuncId} {args : List V} {obs obs' : List Ob} {pv : Option V} {ids : List Id} {K : Env -> Hp -> Prop} {v : V} (h : JD P rec g args obs pv (· = .ret v obs')) (hl : obs'.length <= ids.length)
  (hK : fE0 env hp ids 0 v obs' (hold fun _ env' hp' => K env' hp')) : dJ P rec g args obs pv env hp ids K := h.mono fun r e => by subst e; exact ⟨0, hK⟩
theorem dJ_retB {rec : Bool} {g : FuncId} {args : List V} {obs obs' : List Ob} {pv : Option V} {ids : List Id} {K : Env -> Hp -> Prop} {v : V} (base : Nat) (h : JD P rec g args obs pv (· = .ret v obs'))
  (hK : fE0 env hp ids base v obs' (hold fun _ env' hp' => K env' hp')) : dJ P rec g args obs pv env hp ids K := h.mono fun r e => by subst e; exact ⟨base, hK⟩
theorem mo0 {k : Nat} {rs : List IOp} {Q : Res -> Prop} {rec : Bool} {g : FuncId} {cs : List V} (E : Env) (h : Hp) (hw : Wk E h env hp) (hd : kN0 P rec g cs none E h (wkQ (retX k rs Q) .ret)) : dEnd P k rs Q rec g cs .ret env hp := ⟨E, h, hw, hd⟩
theorem dEnd_nrm {k : Nat} {rs : List IOp} {Q : Res -> Prop} {rec : Bool} {g : FuncId} {cs : List V} (E : Env) (h : Hp) (hw : Wk E h env hp) (hd : kN0 P rec g cs none E h (wkQ (retX k rs Q) .ret)) : dEnd P k rs Q rec g cs .normal env hp := ⟨E, h, hw, hd⟩
theorem mn0 {k : Nat} {rs : List IOp} {Q : Res -> Prop} {g : FuncId} {cs : List V} {p : V} (hpu : p.pure = true) (E : Env) (h : Hp) (hw : Wk E h env hp) (hd : kN0 P true g cs (some p) E h (wkQ (retX k rs Q) .ret)) : dEnd P k rs Q true g cs (.pan p) env hp := ⟨hpu, E, h, hw, hd⟩
end Go.Am
end

section
namespace Go.Am
set_option maxRecDepth 100000
attribute [local irreducible] vc vcIs vcI vcOp vcD vcDp vcDR vcT vcAR bV0 aY0 panD neG ne pv J bH0 bM0 bY0 bd0 evK evsK nthK objK boxK rowK bz0 intK strK aggK fnK ifcK ay0 az0 ldK ldaK iaK srcK stK appK appD b00 pvK bC0 aW0 bL0 bs0 slAV bG0
abbrev vI (n : Int) : V := .c (.int .i64 n)
abbrev vB (b : Bool) : V := .c (.bool b)
abbrev vS (s : ByteArray) : V := .c (.string s)
abbrev vU (c : UInt8) : V := .c (.int .u8 c.toNat)
theorem jJ0 (s : ByteArray) (c : UInt8) : Ret prog dR0 [vS s, vU c] (vI (Lib.indexByte (sB s) c)) :=
 J_ext (fn := Go.Proofs.Tryz.f110) Go.Proofs.Tryz.func110 (by kernel_rfl) (by kernel_rfl) (by kernel_rfl) (e := Extern.BytealgIndexByte.indexByte) (by kernel_rfl) (fun H μ us h => h.two) (fun w => by rw [Lib.run_indexByteString]; simp) (fun H μ => .c _)
theorem gG0 (s : ByteArray) (c : UInt8) : Ret prog ch0 [vS s, vU c] (vI (Lib.indexByte (sB s) c)) := by
 refine cm0 eg0 (by simp) ?_
 refine rS1 @b30.eq_1 ?_
 refine ak0 ?_; simp; refine ah0 (jJ0 s c) (by simp) ?_
 exact rT0
theorem aL0 (s : ByteArray) (c : UInt8) : Ret prog go0 [vS s, vU c] (vI (Lib.indexByte (sB s) c)) := by
 refine cm0 jV0 (by simp) ?_
 refine rS1 @fz0.eq_1 ?_
 refine ak0 ?_; simp; refine ah0 (gG0 s c) (by simp) ?_
 exact rT0
theorem iS0 (l : List UInt8) (c : UInt8) : Lib.indexByte l c < l.length := by
 induction l with
 | nil => simp [Lib.indexByte]
 | cons b l ih =>
  unfold Lib.indexByte
  simp only [List.length_cons]
  split
  ·omega
  ·split <;> omega
theorem b80 (l : List UInt8) (c : UInt8) : 0 <= Lib.indexByte l c ↔ l.contains c = true := by
 induction l with
 | nil => simp [Lib.indexByte]
 | cons b l ih =>
  have hge := Lib.indexByte_ge l c
  unfold Lib.indexByte
  rw [List.contains_cons, Bool.or_eq_true, <- ih]
  by_cases h1 : b = c
  ·subst h1; simp
  ·have h2 : ¬ c = b := fun hh => h1 hh.symm
   have h3 : (b == c) = false := by simpa using h1
   have h4 : (c == b) = false := by simpa using h2
   rw [h3, h4]
   by_cases h5 : Lib.indexByte l c = -1
   ·rw [h5]; simp
   ·have h6 : (Lib.indexByte l c == -1) = false := by simpa using h5
    rw [h6]; simp only [Bool.false_eq_true, if_false, false_or]; omega
structure LxS where
 s : ByteArray
 at_ : Int
 out : List Tok
def LxS.obs (x : LxS) : List Ob := [.box [vS x.s, vI x.at_, .arr (.e 1) 0 x.out.length], .row bW0 4 true (x.out.map Tok.cells)]
theorem aV0 (x : LxS) (a e : Int) : J prog io0 [.bp (.e 0) 0, vI a, vI e] x.obs (· = .pan (.ifc kD0 (.agg [vI a, vI e])) x.obs) := by
 refine at0 lt0 (by simp [LxS.obs]) ?_
 refine rS4 @hr0.eq_1 @LxS.obs.eq_1 @hpE.eq_1 @hpE.eq_2 ?_
 refine endP ?_
 exact rT0
theorem iU0 (x : LxS) (set : ByteArray) (i : Nat) (hx : x.at_ = i) (hs : x.s.size < 2 ^ 40) :
  J prog gb0 [.bp (.e 0) 0, vS set] x.obs (· = .ret (vI (bg0 (sB set) (sB x.s) i)) x.obs) := by
 have hz : x.s.size = (sB x.s).length := rfl
 refine at0 is0 (by simp [LxS.obs]) ?_
 refine rS5 @fa0.eq_1 @LxS.obs.eq_1 @hpE.eq_1 @hpE.eq_2 hx ?_
 refine aO0 (fun j : Nat => x.s.size - j) (fun j => [(5, vI j), (1, vS set), (0, .bp (.e 0) 0)])
  (fun _ => [(.e 0, .box [vS x.s, vI x.at_, .arr (.e 1) 0 x.out.length]), (.e 1, .row bW0 4 true (x.out.map Tok.cells))])
  (fun j => bg0 (sB set) (sB x.s) j = bg0 (sB set) (sB x.s) i) i rfl (Wk.subs (by simp) (by simp [hx])) ?_
 intro j hj
 refine rS0 ?_
 refine ⟨fun hl => ?_, fun hl => ?_⟩
 ·have hl' : j < (sB x.s).length := by rw [<- hz]; exact hl
  refine ⟨(sB x.s)[j], by simp [sB], ?_⟩
  refine ak0 ?_; simp; refine ah0 (aL0 set (sB x.s)[j]) (by simp) ?_
  refine rS0 ?_
  refine ⟨fun hc => ?_, fun hc => ?_⟩
  ·have hm := (b80 _ _).1 hc
   refine .of (j + 1) (by rw [<- hj, o90 hl' hm]) (by omega) (Wk.subs (by simp) (by simp [hx]))
  ·have hm : (sB set).contains (sB x.s)[j] = false := by
    rw [<- Bool.not_eq_true]; intro h; exact hc ((b80 _ _).2 h)
   rw [qi0 hl' hm] at hj
   refine ax0 [] ?_
   exact rT2 hj hx
 ·rw [qh0 (by omega)] at hj
  refine ax0 [] ?_
  exact rT2 hj hx
theorem dO0 (s : ByteArray) (i j : Nat) : sB (s.extract i j) = ((sB s).drop i).take (j - i) := by
 obtain ⟨⟨l⟩⟩ := s
 simp [sB, ByteArray.extract, ByteArray.copySlice]
theorem gH0 {s : Bs} {f i : Nat} (h : s[bg0 be0 s i]? ≠ some 35) : aS0 s (f + 1) i = bg0 be0 s i := by
 rw [aS0, if_neg h]
theorem lQ0 {s : Bs} {f i : Nat} (h : s[bg0 be0 s i]? = some 35) : aS0 s (f + 1) i = aS0 s f (if Lib.indexByte (s.drop (bg0 be0 s i)) 10 < 0 then s.length else bg0 be0 s i + (Lib.indexByte (s.drop (bg0 be0 s i)) 10).toNat) := by
 rw [aS0, if_pos h]
theorem nN0 (x : LxS) (i : Nat) (hx : x.at_ = i) (hi : i <= x.s.size) (hs : x.s.size < 2 ^ 40) :
  J prog eC0 [.bp (.e 0) 0] x.obs (· = .ret (.tup []) ({ x with at_ := aS0 (sB x.s) (x.s.size + 1) i } : LxS).obs) := by
 have hz : x.s.size = (sB x.s).length := rfl
 refine at0 gR0 (by simp [LxS.obs]) ?_
 refine rS4 @dT0.eq_1 @LxS.obs.eq_1 @hpE.eq_1 @hpE.eq_2 ?_
 refine aO0 (fun y : Nat × Nat => y.1) (fun y => [(0, .bp (.e 0) 0)])
  (fun y => [(.e 0, .box [vS x.s, vI y.2, .arr (.e 1) 0 x.out.length]), (.e 1, .row bW0 4 true (x.out.map Tok.cells))])
  (fun y => y.2 <= x.s.size /\ x.s.size - y.2 < y.1 /\ aS0 (sB x.s) y.1 y.2 = aS0 (sB x.s) (x.s.size + 1) i) (x.s.size + 1, i) ⟨hi, by show x.s.size - i < x.s.size + 1; omega, rfl⟩ (Wk.subs (by simp) (by simp [hx])) ?_
 rintro ⟨f, j⟩ ⟨hj, hf, hb⟩
 dsimp only at hj hf hb
 obtain ⟨f, rfl⟩ : ∃ f', f = f' + 1 := ⟨f - 1, by omega⟩
 have hge := jB0 be0 (sB x.s) j
 have hle : bg0 be0 (sB x.s) j <= x.s.size := jC0 hj
 refine rS0 ?_
 refine aa0 [.e 0, .e 1] ?_
 simp
 have hO := iU0 { x with at_ := j } ⟨⟨[32, 10, 9]⟩⟩ j rfl hs
 try simp [LxS.obs] at hO
 refine ab0 5 hO ?_
 rw [show sB ⟨⟨[32, 10, 9]⟩⟩ = be0 from rfl]
 generalize hp : bg0 be0 (sB x.s) j = p at *
 refine rS0 ?_
 refine ⟨fun hl => ?_, fun hl => ?_⟩
 ·rw [gH0 (by rw [hp, List.getElem?_eq_none (by omega)]; simp), hp] at hb
  refine ax0 [] ?_
  simp +contextual (maxSteps := 2000000) (disch := omega) [-Int.not_lt, -Int.not_le, -Nat.not_lt, -Nat.not_le, sx, <- hb]
 have hl' : p < (sB x.s).length := by omega
 refine ⟨(sB x.s)[p], by simp [sB], fun hc => ?_, fun hc => ?_⟩
 ·rw [gH0 (by rw [hp, List.getElem?_eq_getElem hl']; intro h; apply hc; injection h with h; rw [h]; rfl), hp] at hb
  refine ax0 [] ?_
  simp +contextual (maxSteps := 2000000) (disch := omega) [-Int.not_lt, -Int.not_le, -Nat.not_lt, -Nat.not_le, sx, <- hb]
 have hc' : (sB x.s)[p] = 35 := by
  apply UInt8.toNat_inj.1; exact_mod_cast hc
 refine ak0 ?_; simp; refine ah0 (aL0 (x.s.extract p x.s.size) 10) (by simp) ?_
 rw [dO0, List.take_of_length_le (by simp)]
 have hlt := iS0 ((sB x.s).drop p) 10
 have h0 : 0 < (Lib.indexByte ((sB x.s).drop p) 10) \/ (Lib.indexByte ((sB x.s).drop p) 10) < 0 := by
  rw [List.drop_eq_getElem_cons hl', hc']
  have hge := Lib.indexByte_ge ((sB x.s).drop (p + 1)) 10
  unfold Lib.indexByte
  by_cases h5 : Lib.indexByte ((sB x.s).drop (p + 1)) 10 = -1
  ·rw [h5]; right; decide
  ·left
   have h6 : (Lib.indexByte ((sB x.s).drop (p + 1)) 10 == -1) = false := by simpa using h5
   rw [h6, show ((35 : UInt8) == 10) = false from rfl]
   simp only [Bool.false_eq_true, if_false]; omega
 rw [lQ0 (by rw [hp, List.getElem?_eq_getElem hl', hc']), hp] at hb
 generalize hq : Lib.indexByte ((sB x.s).drop p) 10 = q at *
 simp only [List.length_drop] at hlt
 refine rS0 ?_
 refine ⟨fun hq0 => ?_, fun hq0 => ?_⟩
 ·obtain ⟨m, rfl⟩ := Int.eq_ofNat_of_zero_le hq0
  rw [if_neg (by omega)] at hb
  refine .of (f, p + m) ⟨by dsimp only; omega, by dsimp only; omega, hb⟩ (by simp) (Wk.subs (by simp) (by simp))
 ·rw [if_pos (by omega)] at hb
  refine .of (f, x.s.size) ⟨by dsimp only; omega, by dsimp only; omega, hb⟩ (by simp) (Wk.subs (by simp) (by simp))
def LxS.obs' (x : LxS) : List Ob := [.box [vS x.s, vI x.at_, .arr (.e 2) 0 x.out.length], .gone, .row bW0 4 true (x.out.map Tok.cells)]
theorem eJ0 (x : LxS) (t : Tok) (e : Int) (hn : x.out.length < 4096) :
  J prog ga0 [.bp (.e 0) 0, t.V, vI e] x.obs (· = .ret (.tup []) ({ x with out := x.out ++ [{ t with at_ := x.at_ }], at_ := e } : LxS).obs') := by
 refine at0 ir0 (by simp [LxS.obs]) ?_
 refine rS4 @e90.eq_1 @LxS.obs.eq_1 @hpE.eq_1 @hpE.eq_2 ?_
 refine bX0 [.l 30 0] ?_
 exact rT2 @LxS.obs'.eq_1 @Tok.ac0
theorem dE0 (x : LxS) (t : Tok) (e : Int) (hn : 4096 <= x.out.length) (hl : x.out.length < 2 ^ 40) :
  J prog ga0 [.bp (.e 0) 0, t.V, vI e] x.obs (· = .pan (.ifc kD0 (.agg [vI x.at_, vI 36])) x.obs) := by
 refine at0 ir0 (by simp [LxS.obs]) ?_
 refine rS4 @e90.eq_1 @LxS.obs.eq_1 @hpE.eq_1 @hpE.eq_2 ?_
 refine aa0 [.e 0, .e 1] ?_
 simp
 have hO := aV0 x x.at_ 36
 try simp [LxS.obs] at hO
 refine af0 hO ?_
 refine rS0 ?_
 refine endP ?_
 exact rT0
end Go.Am
end

section
namespace Go.Am
open Go
open Go.Proofs.YtnlggapedakocaaGreatDoor (Rows.uptoBulk Rows.uptoBulkAll)
set_option maxRecDepth 100000
section
variable {H : Type} {enc : TypeId × Value -> H} {W : World} {sp : Nat -> Bool} {held : Bool}
theorem c4 : Go.Proofs.Tryz.prog.cellsOf 4 = 1 := by kernel_rfl
theorem wd_imW (hl : ∀ p ∈ pP0, imW W p.1 = some p.2) : Wd (imW W) Mu.bot (hpE 0 []) W := by
 refine ⟨fun i o h => absurd h (by simp [hpE]), fun i j oi oj bi bj h => absurd h (by simp [hpE]), fun b cs h => ?_, hl⟩
 unfold imW at h
 split at h
 ·rename_i c t f hb
  injection h with h; subst h
  exact ⟨t, f, hb⟩
 ·cases h
end
end Go.Am
end

section
namespace Go.Am
variable {P : Program}
theorem J_calls {f : FuncId} {fn : Func} {c : Code} {args : List V} {vs : Array Value} {v : V} {x : Value} (hf : P.funcs[f]? = some fn) (hn : (fn.name == "runtime.NumGoroutine") = false) (hb : fn.body = some c)
  (hargs : ∀ H μ us, RL H μ args us -> us = vs) (hx : ∀ H μ, R H μ v x)
  (hc : ∀ w, (∀ p ∈ pP0, ∃ ty fz, w.heap[p.1]? = some (.cells p.2 ty fz)) -> Calls P f vs w fun e w' => e = .returned x /\ ∃ k os, w' = Sort.grow (w.drewN k) os) : Ret P f args v := by
 intro H μ us w h3 hW
 have := hargs H μ us h3
 subst this
 have hn' : ¬ fn.name = "runtime.NumGoroutine" := by simpa using hn
 have hrun : (callFunc f us).run P w = .ok (.enter f us) w := by simp [callFunc, hf, hn', hb]
 unfold dF0
 rw [hrun]
 have hl : ∀ p ∈ pP0, ∃ ty fz, w.heap[p.1]? = some (.cells p.2 ty fz) := fun p hp => hW.imm _ _ (hW.glo p hp)
 refine Calls.mono (hc w hl) ?_
 rintro e w' ⟨rfl, k, os, rfl⟩
 have hheap : ∀ b, b < w.heap.size -> (Sort.grow (w.drewN k) os).heap[b]? = w.heap[b]? := by
  intro b hb
  show (w.heap ++ os)[b]? = w.heap[b]?
  rw [Array.getElem?_append_left hb]
 have hno : ∀ b, ¬ Owns (hpE 0 []) μ b := by rintro b ⟨i, o, blk, h, _⟩; simp [hpE] at h
 refine ⟨_, H, μ, rfl, ⟨x, rfl, hx H μ⟩, ⟨Imm.le_refl H, rfl, rfl, rfl, ?_, fun b hb _ => hheap b hb, fun b h _ => h, fr0⟩, ⟨fun i o hl => by simp [hpE] at hl, fun i j oi oj bi bj hi => by simp [hpE] at hi, fun b cs h => ?_, hW.glo⟩, Nat.le_refl _, fun j o hj => by simp at hj⟩
 ·show w.heap.size <= (w.heap ++ os).size
  simp
 ·obtain ⟨ty, fz, h1⟩ := hW.imm b cs h
  exact ⟨ty, fz, by rw [hheap b (Array.getElem?_eq_some_iff.1 h1).1]; exact h1⟩
theorem st0 {w : World} {name : String} (hg : P.globalNamed name = some laidB) (hl : ∀ p ∈ pP0, ∃ ty fz, w.heap[p.1]? = some (.cells p.2 ty fz)) : Lib.TabIs P w name .u64 Lib.pow10Tab := by
 obtain ⟨ty, fz, h⟩ := hl _ (List.mem_singleton.2 rfl)
 unfold Lib.TabIs World.var?
 rw [hg]
 simp only [Option.bind_some]
 rw [h]
 rfl
end Go.Am
end

section
namespace Go.Proofs.YtnlggapedakocaaGreatDoor
open Go.ChangeShapes Go.WideShapes Go.ChangeAt Go.RowKit
open Go.Am (imW pP0)
set_option maxRecDepth 100000
theorem own : ownKnob Tryz.prog.godebug = none := by kernel_rfl
theorem gTab : Tryz.prog.globalNamed "internal/strconv.uint64pow10" = some 0 := by kernel_rfl
theorem gTabType : (Tryz.prog.globals[0]?).map (·.type) = some 151 := by kernel_rfl
theorem u151 : ∃ e, Tryz.prog.underlying 151 = some (.array 20 e) /\ Tryz.prog.underlying e = some (.int .u64) /\ Tryz.prog.cellsOf e = 1 := ⟨_, Tryz.underlying151, by kernel_rfl, by kernel_rfl⟩
theorem c151 : Tryz.prog.cellsOf 151 = 20 := by kernel_rfl
theorem table {W : World} (h : laidMetH Tryz.prog Rows.showTypesRow.laid W) : ∀ p ∈ pP0, imW W p.1 = some p.2 := by
 have h' : laidMet Tryz.prog Rows.showTypesRow.laid W := h
 obtain ⟨ps, ⟨_, _, _, _, _, _, _, _, _, _, ⟨_, _, _, _, _, _, _, _, _, _, ⟨g, t, cs, fuel, p, q, hg, ht, hv, hd, _⟩, _⟩, _⟩, _⟩ := h'
 obtain rfl := Option.some.inj (gTab.symm.trans hg)
 obtain rfl := Option.some.inj (gTabType.symm.trans ht)
 obtain ⟨e, u1, u2, u3⟩ := u151
 have hd' : DataW.trod (fun _ => ()) Tryz.prog W 0 (fun _ => true) false fuel 151 cs.toList = some (Lib.tabData .u64 Lib.pow10Tab, p) := hd
 have hc := Lib.cells_of_tab u1 u2 u3 c151 hd'
 intro x hx
 obtain rfl := List.mem_singleton.1 hx
 unfold World.var? at hv
 rw [gTab] at hv
 simp only [Option.bind_some] at hv
 show imW W 0 = _
 unfold imW
 split at hv
 ·rename_i c t f hb
  rw [hb]
  injection hv with hv
  subst hv
  have : c = (Lib.pow10Tab.map fun z => Value.int .u64 z).toArray := by
   rw [<- hc]
  rw [this]
  rfl
 ·cases hv
end Go.Proofs.YtnlggapedakocaaGreatDoor
end

section
namespace Go.Am
variable {P : Program} {H : Imm} {μ : Mu} {hp : Hp} {w : World}
theorem ObOk.below {i : Id} {o : Ob} {w' : World} (h : ObOk H μ w i o) (hk : ∀ b, b < w.heap.size -> w'.heap[b]? = w.heap[b]?) : ObOk H μ w' i o := by
 have hs : ∀ {b : Nat} {x : Obj}, w.heap[b]? = some x -> w'.heap[b]? = some x := fun {b x} e => by rw [hk b (Array.getElem?_eq_some_iff.1 e).1]; exact e
 cases o with
 | gone => trivial
 | box cs =>
  obtain ⟨blk, vals, ty, h1, h2, h3⟩ := h
  exact ⟨blk, vals, ty, h1, hs h2, h3⟩
 | row ty sz own xs =>
  rcases h with h | ⟨blk, vals, h1, h2, h3, h4⟩
  ·exact .inl h
  ·exact .inr ⟨blk, vals, h1, h2, hs h3, h4⟩
 | mpo kd kvs =>
  obtain ⟨blk, es, clk, h1, h2, h3⟩ := h
  exact ⟨blk, es, clk, h1, hs h2, h3⟩
theorem Wd.below {w' : World} (hW : Wd H μ hp w) (hk : ∀ b, b < w.heap.size -> w'.heap[b]? = w.heap[b]?) : Wd H μ hp w' :=
 ⟨fun i o hl => (hW.ob i o hl).below hk, hW.inj, fun b cs h => by
  obtain ⟨ty, fz, e⟩ := hW.imm b cs h
  exact ⟨ty, fz, by rw [hk b (Array.getElem?_eq_some_iff.1 e).1]; exact e⟩, hW.glo⟩
theorem qB0 {f : FuncId} {fn : Func} {c : Code} {args : List V} {obs : List Ob} {v : V} (hf : P.funcs[f]? = some fn) (hn : (fn.name == "runtime.NumGoroutine") = false) (hb : fn.body = some c)
  (hc : ∀ H μ us w, RL H μ args us -> Wd H μ (hpE 0 obs) w -> Calls P f us w fun e w' => (∃ x, e = .returned x /\ R H μ v x) /\ Go.RowKit.Below w.heap.size w w') : J P f args obs (· = .ret v obs) := by
 intro H μ us w h3 hW
 have hn' : ¬ fn.name = "runtime.NumGoroutine" := by simpa using hn
 have hrun : (callFunc f us).run P w = .ok (.enter f us) w := by simp [callFunc, hf, hn', hb]
 unfold dF0
 rw [hrun]
 refine Calls.mono (hc H μ us w h3 hW) ?_
 rintro e w' ⟨⟨x, rfl, hx⟩, hB⟩
 exact ⟨_, H, μ, rfl, ⟨x, rfl, hx⟩, ⟨Imm.le_refl H, hB.os, hB.tape, hB.output, hB.size, fun b hb _ => hB.block b hb, fun b h _ => h, fr0⟩, hW.below hB.block, Nat.le_refl _, fun _ _ _ _ _ => rfl⟩
end Go.Am
end

section
namespace Go.Proofs
open Go.Shelf
def Tryz.m40 : Go.Shelf.Ren := ⟨fun | 156 => 26 | 165 => 50 | 166 => 46 | 169 => 29 | 240 => 69 | 241 => 73 | 276 => 85 | 277 => 98 | n => n, fun | 31 => 35 | 9 => 9 | 3 => 3 | 4 => 4 | 0 => 0 | 20 => 20 | 72 => 67 | 76 => 104 | 70 => 64 | 37 => 65 | 75 => 103 | 127 => 108 | 164 => 125 | 5 => 5 | 80 => 80 | n => n, fun | n => n⟩
theorem Tryz.lays156 : Go.Proofs.Lays.n156 Tryz.prog Tryz.m40 := {
 mixed := by kernel_rfl
 f156 := Tryz.func26.trans (congrArg some (by kernel_rfl))
 f165 := Tryz.func50.trans (congrArg some (by kernel_rfl))
 f166 := Tryz.func46.trans (congrArg some (by kernel_rfl))
 f169 := Tryz.func29.trans (congrArg some (by kernel_rfl))
 f240 := Tryz.func69.trans (congrArg some (by kernel_rfl))
 f241 := Tryz.func73.trans (congrArg some (by kernel_rfl))
 f276 := Tryz.func85.trans (congrArg some (by kernel_rfl))
 f277 := Tryz.func98.trans (congrArg some (by kernel_rfl))
 t0 := Tryz.underlying0
 a0 := Tryz.isAgg0
 z0 := Tryz.sizeOf0
 v0 := Tryz.zeroValue0
 t3 := Tryz.underlying3
 a3 := Tryz.isAgg3
 z3 := Tryz.sizeOf3
 v3 := Tryz.zeroValue3
 t4 := Tryz.underlying4
 a4 := Tryz.isAgg4
 z4 := Tryz.sizeOf4
 v4 := Tryz.zeroValue4
 t9 := Tryz.underlying9
 a9 := Tryz.isAgg9
 z9 := Tryz.sizeOf9
 v9 := Tryz.zeroValue9
 t20 := Tryz.underlying20
 a20 := Tryz.isAgg20
 z20 := Tryz.sizeOf20
 v20 := Tryz.zeroValue20
 t31 := Tryz.underlying35
 a31 := Tryz.isAgg35
 z31 := Tryz.sizeOf35
 v31 := Tryz.zeroValue35
 t37 := Tryz.underlying65
 a37 := Tryz.isAgg65
 z37 := Tryz.sizeOf65
 v37 := Tryz.zeroValue65
 t70 := Tryz.underlying64
 a70 := Tryz.isAgg64
 z70 := Tryz.sizeOf64
 v70 := Tryz.zeroValue64
 t72 := Tryz.underlying67
 a72 := Tryz.isAgg67
 z72 := Tryz.sizeOf67
 v72 := Tryz.zeroValue67
 t75 := Tryz.underlying103
 a75 := Tryz.isAgg103
 z75 := Tryz.sizeOf103
 v75 := Tryz.zeroValue103
 t76 := Tryz.underlying104
 a76 := Tryz.isAgg104
 z76 := Tryz.sizeOf104
 v76 := Tryz.zeroValue104
 t127 := Tryz.underlying108
 a127 := Tryz.isAgg108
 z127 := Tryz.sizeOf108
 v127 := Tryz.zeroValue108
 t164 := Tryz.underlying125
 a164 := Tryz.isAgg125
 z164 := Tryz.sizeOf125
 v164 := Tryz.zeroValue125 }
theorem Tryz.bx156 : Builder.Extra Tryz.prog Tryz.m40 := ⟨⟨by kernel_rfl, by kernel_rfl⟩, Tryz.underlying5, Tryz.isAgg5, Tryz.sizeOf5, Tryz.zeroValue5, by kernel_rfl, by kernel_rfl, by kernel_rfl, by decide⟩
end Go.Proofs
end

section
namespace Go.Am
set_option maxRecDepth 100000
attribute [local irreducible] vc vcIs vcI vcOp vcD vcDp vcDR vcT vcAR bV0 aY0 panD neG ne pv J bH0 bM0 bY0 bd0 evK evsK nthK objK boxK rowK bz0 intK strK aggK fnK ifcK ay0 az0 ldK ldaK iaK srcK stK appK appD b00 pvK bC0 aW0 bL0 bs0 slAV bG0
abbrev iX0 (ts : List Tok) (n : Int) (e : Int) : V := .ifc li0 (.agg [vI (tk ts n.toNat).at_, vI e])
def pObs (ts : List Tok) (n : Int) : List Ob := [.box [.lst (ts.map Tok.cells), vI n]]
def pAns {α : Type} (ts : List Tok) (g : α -> V) : PR α -> Res
 | .ok (a, n) => .ret (g a) (pObs ts n)
 | .bad n e => .pan (iX0 ts n e) (pObs ts n)
def ar0 (ts : List Tok) : LxR Nat -> Res
 | .ok n => .ret (.tup []) (pObs ts n)
 | .bad n e => .pan (iX0 ts n e) (pObs ts n)
theorem tk_get {ts : List Tok} {n : Nat} (h : n < ts.length) : ts[n] = tk ts n := by
 unfold tk; rw [List.getD_eq_getElem?_getD, List.getElem?_eq_getElem h]; rfl
def jl0 (l : List ByteArray) (s : ByteArray) : Int := match l.findIdx? (fun x => decide (s = x)) with | some i => (i : Int) | none => -1
theorem jm0 (l : List ByteArray) (s : ByteArray) (hl : l.length < 2 ^ 40) :
  Ret prog bA0 [.lst (l.map fk0), vS s] (vI (jl0 l s)) := by
 refine cm0 e00 (by simp) ?_
 refine rS1 @ct0.eq_1 ?_
 refine aO0 (fun i : Nat => l.length - i) (fun i => [(8, vI i), (7, vI l.length), (0, .lst (l.map fk0)), (1, vS s)]) (fun _ => []) (fun i => i <= l.length /\ ∀ (j : Nat) (h : j < l.length), j < i -> ¬ s = l[j]) 0 (by simp) (Wk.subs (by simp) (by simp)) ?_
 rintro i ⟨hi, ho⟩
 by_cases hlt : i < l.length
 ·have hlt' : (i : Int) < l.length := by omega
  by_cases he : s = l[i]
  ·have : l.findIdx? (fun x => decide (s = x)) = some i := by
    rw [List.findIdx?_eq_some_iff_getElem]
    exact ⟨hlt, by simpa using he, fun j hj => by simpa using ho j (by omega) hj⟩
   have hx : jl0 l s = i := by rw [jl0, this]
   simp +contextual (maxSteps := 2000000) (disch := omega) [-Int.not_lt, -Int.not_le, -Nat.not_lt, -Nat.not_le, sx, hlt', <- he, hx]
  ·refine rS2 hlt' he ?_
   refine .of (i + 1) ⟨by omega, fun j h1 h2 => ?_⟩ (by omega) (Wk.subs (by simp) (by simp))
   by_cases hj : j = i
   ·subst hj; exact he
   ·exact ho j h1 (by omega)
 ·have hge' : ¬ (i : Int) < l.length := by omega
  have : l.findIdx? (fun x => decide (s = x)) = none := by
   rw [List.findIdx?_eq_none_iff]
   intro x hx
   obtain ⟨j, hj, rfl⟩ := List.getElem_of_mem hx
   simpa using ho j hj (by omega)
  have hx : jl0 l s = -1 := by rw [jl0, this]
  exact rT2 hge' hx
theorem strIdx_in (l : List ByteArray) (s : ByteArray) : 0 <= jl0 l s ↔ s ∈ l := by
 unfold jl0
 cases h : l.findIdx? (fun x => decide (s = x)) with
 | none =>
  rw [List.findIdx?_eq_none_iff] at h
  simp only [show ¬ (0 : Int) <= -1 from by omega, false_iff]
  intro hm
  have := h s hm
  simp at this
 | some i =>
  obtain ⟨h1, h2, _⟩ := List.findIdx?_eq_some_iff_getElem.1 h
  have h3 : s = l[i] := by simpa using h2
  simp only [show (0 : Int) <= (i : Int) from by omega, true_iff]
  rw [h3]; exact List.getElem_mem h1
theorem gY0 (l : List ByteArray) (s : ByteArray) (hl : l.length < 2 ^ 40) : Ret prog bk0 [.lst (l.map fk0), vS s] (vB (decide (0 <= jl0 l s))) := by
 refine cm0 ei0 (by simp) ?_
 refine rS1 @b40.eq_1 ?_
 refine ak0 ?_; simp; refine ah0 (jm0 l s hl) (by simp) ?_
 exact rT0
theorem mJ0 (l : List Bs) (s : ByteArray) : decide (0 <= jl0 (l.map bS) s) = l.contains (sB s) := by
 rw [Bool.eq_iff_iff, decide_eq_true_eq, strIdx_in, List.contains_iff_mem, List.mem_map]
 constructor
 ·rintro ⟨x, h, rfl⟩; exact h
 ·intro h; exact ⟨_, h, rfl⟩
theorem gu0 (s : ByteArray) : Ret prog iq0 [vS s] (vB (e70 s)) := by
 refine cm0 lv0 (by simp) ?_
 refine rS1 @ht0.eq_1 ?_
 have h := gY0 (qQ0.map bS) s (by decide)
 rw [mJ0] at h
 refine ak0 ?_; simp; refine ah0 (h) (by simp) ?_
 exact rT1 @e70.eq_1
variable {ts : List Tok} {n : Nat}
theorem a90 (hn : n < ts.length) : J prog gf0 [.bp (.e 0) 0] (pObs ts n) (· = .ret (tk ts n).V (pObs ts n)) := by
 refine at0 jN0 (by simp [pObs]) ?_
 refine rS4 @fq0.eq_1 @pObs.eq_1 @hpE.eq_1 @hpE.eq_2 ?_
 refine ax0 [] ?_
 exact rT1 @tk_get
theorem aX0 (hn : n < ts.length) (e : Int) : J prog ge0 [.bp (.e 0) 0, vI e] (pObs ts n) (· = .pan (iX0 ts n e) (pObs ts n)) := by
 refine at0 jM0 (by simp [pObs]) ?_
 refine rS4 @fp0.eq_1 @pObs.eq_1 @hpE.eq_1 @hpE.eq_2 ?_
 refine aa0 [.e 0] ?_
 simp
 have hO := a90 hn
 try simp [pObs] at hO
 refine ab0 5 hO ?_
 refine rS0 ?_
 refine endP ?_
 exact rT0
theorem lb0 (hn : n < ts.length) (k : Int) (t : Bs) : J prog hD0 [.bp (.e 0) 0, vI k, vS (bS t)] (pObs ts n) (· = .ret (vB (isT ts n k t)) (pObs ts n)) := by
 refine at0 kV0 (by simp [pObs]) ?_
 refine rS4 @gJ0.eq_1 @pObs.eq_1 @hpE.eq_1 @hpE.eq_2 ?_
 refine aa0 [.e 0] ?_
 simp
 have hO := a90 hn
 try simp [pObs] at hO
 refine ab0 9 hO ?_
 by_cases hk : (tk ts n).kind = k
 ·refine rS1 hk ?_
  refine ax0 [] ?_
  exact rT3 @isT.eq_1 hk @eqS.eq_1
 ·refine rS1 hk ?_
  refine ax0 [] ?_
  exact rT2 @isT.eq_1 hk
theorem aj0 (hn : n < ts.length) (hl : ts.length < 2 ^ 40) (k : Int) (t : Bs) : J prog gj0 [.bp (.e 0) 0, vI k, vS (bS t)] (pObs ts n) (· = .ret (vB (isT ts n k t)) (pObs ts (if isT ts n k t then n + 1 else n : Nat))) := by
 refine at0 jR0 (by simp [pObs]) ?_
 refine rS4 @fv0.eq_1 @pObs.eq_1 @hpE.eq_1 @hpE.eq_2 ?_
 refine aa0 [.e 0] ?_
 simp
 have hO := lb0 hn k t
 try simp [pObs] at hO
 refine ab0 10 hO ?_
 cases h : isT ts n k t with
 | true =>
  refine rS0 ?_
  refine ax0 [] ?_
  exact rT0
 | false =>
  refine rS0 ?_
  refine ax0 [] ?_
  exact rT0
theorem aq0 (hn : n < ts.length) (hl : ts.length < 2 ^ 40) (t : Bs) : J prog gh0 [.bp (.e 0) 0, vS (bS t)] (pObs ts n) (· = ar0 ts (bi0 ts n t)) := by
 refine at0 jO0 (by simp [pObs]) ?_
 refine rS4 @fs0.eq_1 @pObs.eq_1 @hpE.eq_1 @hpE.eq_2 ?_
 refine aa0 [.e 0] ?_
 simp
 have hO := aj0 hn hl 4 t
 try simp [pObs] at hO
 refine ab0 6 hO ?_
 cases h : isT ts n 4 t with
 | true =>
  refine rS0 ?_
  refine bX0 [] ?_
  exact rT5 @bi0.eq_1 h @ar0.eq_1 @ar0.eq_2 @pObs.eq_1
 | false =>
  refine rS0 ?_
  refine aa0 [.e 0] ?_
  simp
  have hO := aX0 hn 31
  try simp [pObs] at hO
  refine af0 hO ?_
  refine rS0 ?_
  refine endP ?_
  exact rT6 @bi0.eq_1 h @ar0.eq_1 @ar0.eq_2 @pObs.eq_1 @e50.eq_1
def o00 (ts : List Tok) (n : Nat) (k : Int) : PR Tok := if (tk ts n).kind = k /\ ¬ (k = 1 /\ e70 (tk ts n).text = true) then .ok (tk ts n, n + 1) else e50 ts n 31
theorem pNext_1 : o00 ts n 1 = dA0 ts n := by
 unfold o00 dA0
 cases e70 (tk ts n).text <;> simp
theorem pNext_2 : o00 ts n 2 = pInt ts n := by
 unfold o00 pInt
 simp
theorem ja0 (hn : n < ts.length) (hl : ts.length < 2 ^ 40) (k : Int) : J prog cx0 [.bp (.e 0) 0, vI k] (pObs ts n) (· = pAns ts Tok.V (o00 ts n k)) := by
 refine at0 jP0 (by simp [pObs]) ?_
 refine rS4 @ft0.eq_1 @pObs.eq_1 @hpE.eq_1 @hpE.eq_2 ?_
 refine aa0 [.e 0] ?_
 simp
 have hO := a90 hn
 try simp [pObs] at hO
 refine ab0 7 hO ?_
 by_cases hk : (tk ts n).kind = k
 ·by_cases hk1 : k = 1
  ·subst hk1
   refine rS1 hk ?_
   refine ak0 ?_; simp; refine ah0 (gu0 (tk ts n).text) (by simp) ?_
   cases hr : e70 (tk ts n).text with
   | true =>
    refine rS0 ?_
    refine aa0 [.e 0] ?_
    simp
    have hO := aX0 hn 31
    try simp [pObs] at hO
    refine af0 hO ?_
    refine rS0 ?_
    refine endP ?_
    exact rT7 @o00.eq_1 hk hr @pAns.eq_1 @pAns.eq_2 @pObs.eq_1 @e50.eq_1
   | false =>
    refine rS0 ?_
    refine ax0 [] ?_
    exact rT6 @o00.eq_1 hk hr @pAns.eq_1 @pAns.eq_2 @pObs.eq_1
  ·refine rS2 hk hk1 ?_
   refine ax0 [] ?_
   exact rT6 @o00.eq_1 hk hk1 @pAns.eq_1 @pAns.eq_2 @pObs.eq_1
 ·refine rS1 hk ?_
  refine aa0 [.e 0] ?_
  simp
  have hO := aX0 hn 31
  try simp [pObs] at hO
  refine af0 hO ?_
  refine rS0 ?_
  refine endP ?_
  exact rT6 @o00.eq_1 hk @pAns.eq_1 @pAns.eq_2 @pObs.eq_1 @e50.eq_1
theorem cs0 (hn : n < ts.length) (d : Nat) : J prog gd0 [.bp (.e 0) 0, vI d] (pObs ts n) (· = match kw0 ts n d with | .ok _ => .ret (.tup []) (pObs ts n) | .bad n e => .pan (iX0 ts n e) (pObs ts n)) := by
 refine at0 jK0 (by simp [pObs]) ?_
 by_cases h : 24 < d
 ·have h' : (24 : Int) < d := by omega
  refine rS5 @do0.eq_1 @pObs.eq_1 @hpE.eq_1 @hpE.eq_2 h' ?_
  refine aa0 [.e 0] ?_
  simp
  have hO := aX0 hn 32
  try simp [pObs] at hO
  refine af0 hO ?_
  refine rS0 ?_
  refine endP ?_
  exact rT4 @kw0.eq_1 h @e50.eq_1 @pObs.eq_1
 ·have h' : ¬ (24 : Int) < d := by omega
  refine rS5 @do0.eq_1 @pObs.eq_1 @hpE.eq_1 @hpE.eq_2 h' ?_
  refine bX0 [] ?_
  exact rT3 @kw0.eq_1 h @pObs.eq_1
theorem prefix_eq {s p : ByteArray} (h : p.size <= s.size) : eqS (s.extract 0 p.size) p = (sB p).isPrefixOf (sB s) := by
 unfold eqS
 rw [Bool.eq_iff_iff, decide_eq_true_eq, List.isPrefixOf_iff_prefix, List.prefix_iff_eq_take]
 have h1 : sB (s.extract 0 p.size) = (sB s).take (sB p).length := by rw [dO0]; simp
 constructor
 ·intro h2; rw [<- h1, h2]
 ·intro h2; rw [<- h1] at h2
  obtain ⟨⟨p⟩⟩ := p
  generalize s.extract 0 _ = q at h2
  obtain ⟨⟨q⟩⟩ := q
  simp [sB] at h2; rw [h2]
theorem prefix_no {s p : ByteArray} (h : ¬ p.size <= s.size) : (sB p).isPrefixOf (sB s) = false := by
 rw [<- Bool.not_eq_true, List.isPrefixOf_iff_prefix]
 intro h2
 exact h h2.length_le
theorem dm0 (s p : ByteArray) : Ret prog cg0 [vS s, vS p] (vB ((sB p).isPrefixOf (sB s))) := by
 refine cm0 ef0 (by simp) ?_
 by_cases h : p.size <= s.size
 ·have h' : (p.size : Int) <= s.size := by omega
  refine rS3 @bh0.eq_1 h h' ?_
  simpa [eqS, sB] using prefix_eq h
 ·have h' : ¬ (p.size : Int) <= s.size := by omega
  simp +contextual (maxSteps := 2000000) (disch := omega) [-Int.not_lt, -Int.not_le, -Nat.not_lt, -Nat.not_le, sx, bh0, h, h', prefix_no h]
theorem iB0 (s p : ByteArray) : Ret prog gn0 [vS s, vS p] (vB ((sB p).isPrefixOf (sB s))) := by
 refine cm0 jU0 (by simp) ?_
 refine rS1 @fy0.eq_1 ?_
 refine ak0 ?_; simp; refine ah0 (dm0 s p) (by simp) ?_
 exact rT0
end Go.Am
end

section
namespace Go.Proofs
open Go.Shelf
def Tryz.qS0 : Go.Shelf.Ren := ⟨fun | 246 => 70 | 283 => 86 | 284 => 87 | 285 => 88 | 286 => 89 | 129 => 115 | 317 => 114 | 318 => 116 | 319 => 117 | 320 => 118 | 337 => 134 | 338 => 135 | n => n, fun | 2 => 2 | 3 => 3 | 9 => 9 | 4 => 4 | 171 => 127 | 0 => 0 | 53 => 128 | 37 => 65 | 5 => 5 | 173 => 131 | 212 => 151 | 51 => 152 | 20 => 20 | 213 => 153 | 46 => 52 | 232 => 186 | 233 => 187 | n => n, fun | 17 => 0 | 18 => 2 | 19 => 3 | n => n⟩
theorem Tryz.lays246 : Go.Proofs.LaysM.n246 Tryz.prog Tryz.qS0 := {
 mixed := by kernel_rfl
 f129 := Tryz.func115.trans (congrArg some (by kernel_rfl))
 f246 := Tryz.func70.trans (congrArg some (by kernel_rfl))
 f283 := Tryz.func86.trans (congrArg some (by kernel_rfl))
 f284 := Tryz.func87.trans (congrArg some (by kernel_rfl))
 f285 := Tryz.func88.trans (congrArg some (by kernel_rfl))
 f286 := Tryz.func89.trans (congrArg some (by kernel_rfl))
 f317 := Tryz.func114.trans (congrArg some (by kernel_rfl))
 f318 := Tryz.func116.trans (congrArg some (by kernel_rfl))
 f319 := Tryz.func117.trans (congrArg some (by kernel_rfl))
 f320 := Tryz.func118.trans (congrArg some (by kernel_rfl))
 f337 := Tryz.func134.trans (congrArg some (by kernel_rfl))
 f338 := Tryz.func135.trans (congrArg some (by kernel_rfl))
 t0 := Tryz.underlying0
 a0 := Tryz.isAgg0
 z0 := Tryz.sizeOf0
 v0 := Tryz.zeroValue0
 t2 := Tryz.underlying2
 a2 := Tryz.isAgg2
 z2 := Tryz.sizeOf2
 v2 := Tryz.zeroValue2
 t3 := Tryz.underlying3
 a3 := Tryz.isAgg3
 z3 := Tryz.sizeOf3
 v3 := Tryz.zeroValue3
 t4 := Tryz.underlying4
 a4 := Tryz.isAgg4
 z4 := Tryz.sizeOf4
 v4 := Tryz.zeroValue4
 t5 := Tryz.underlying5
 a5 := Tryz.isAgg5
 z5 := Tryz.sizeOf5
 v5 := Tryz.zeroValue5
 t9 := Tryz.underlying9
 a9 := Tryz.isAgg9
 z9 := Tryz.sizeOf9
 v9 := Tryz.zeroValue9
 t20 := Tryz.underlying20
 a20 := Tryz.isAgg20
 z20 := Tryz.sizeOf20
 v20 := Tryz.zeroValue20
 t37 := Tryz.underlying65
 a37 := Tryz.isAgg65
 z37 := Tryz.sizeOf65
 v37 := Tryz.zeroValue65
 t46 := Tryz.underlying52
 a46 := Tryz.isAgg52
 z46 := Tryz.sizeOf52
 v46 := Tryz.zeroValue52
 t51 := Tryz.underlying152
 a51 := Tryz.isAgg152
 z51 := Tryz.sizeOf152
 v51 := Tryz.zeroValue152
 t53 := Tryz.underlying128
 a53 := Tryz.isAgg128
 z53 := Tryz.sizeOf128
 v53 := Tryz.zeroValue128
 t171 := Tryz.underlying127
 a171 := Tryz.isAgg127
 z171 := Tryz.sizeOf127
 v171 := Tryz.zeroValue127
 t173 := Tryz.underlying131
 a173 := Tryz.isAgg131
 z173 := Tryz.sizeOf131
 v173 := Tryz.zeroValue131
 t212 := Tryz.underlying151
 a212 := Tryz.isAgg151
 z212 := Tryz.sizeOf151
 v212 := Tryz.zeroValue151
 t213 := Tryz.underlying153
 a213 := Tryz.isAgg153
 z213 := Tryz.sizeOf153
 t232 := Tryz.underlying186
 a232 := Tryz.isAgg186
 z232 := Tryz.sizeOf186
 v232 := Tryz.zeroValue186
 t233 := Tryz.underlying187
 a233 := Tryz.isAgg187
 z233 := Tryz.sizeOf187
 v233 := Tryz.zeroValue187
 g17 := by kernel_rfl
 g18 := by kernel_rfl
 g19 := by kernel_rfl
 i0 := by kernel_rfl
 i2 := by kernel_rfl
 i3 := by kernel_rfl
 i4 := by kernel_rfl
 i5 := by kernel_rfl
 i9 := by kernel_rfl
 i20 := by kernel_rfl
 i37 := by kernel_rfl
 i46 := by kernel_rfl
 i51 := by kernel_rfl
 i53 := by kernel_rfl
 i171 := by kernel_rfl
 i173 := by kernel_rfl
 i212 := by kernel_rfl
 i232 := by kernel_rfl
 i233 := by kernel_rfl
 m17 := by kernel_rfl
 m18 := by kernel_rfl
 m19 := by kernel_rfl }
end Go.Proofs
end

section
namespace Go.Am
set_option maxRecDepth 100000
attribute [local irreducible] vc vcIs vcI vcOp vcD vcDp vcDR vcT vcAR bV0 aY0 panD neG ne pv J bH0 bM0 bY0 bd0 evK evsK nthK objK boxK rowK bz0 intK strK aggK fnK ifcK ay0 az0 ldK ldaK iaK srcK stK appK appD b00 pvK bC0 aW0 bL0 bs0 slAV bG0
def sq0 (n : Int) : ByteArray := ⟨(Lib.itoa n).toArray⟩
theorem nz0 (n : Int) (h0 : -9223372036854775808 <= n) (h1 : n < 9223372036854775808) : Ret prog fG0 [vI n, vI 10] (vS (sq0 n)) := by
 obtain ⟨c, hc⟩ : ∃ c, Go.Proofs.Tryz.f70.body = some c := ⟨_, rfl⟩
 exact J_calls (fn := Go.Proofs.Tryz.f70) (c := c) (vs := #[.int .i64 n, .int .i64 10]) (x := .string (sq0 n)) Go.Proofs.Tryz.func70 (by kernel_rfl) hc (fun H μ us h => h.two) (fun H μ => .c _)
  fun w hl => Go.Proofs.Any.internal_strconv_FormatInt_10 Go.Proofs.Tryz.lays246 n h0 (by omega) w (st0 (by kernel_rfl) hl)
theorem k00 (n : Int) (h0 : -9223372036854775808 <= n) (h1 : n < 9223372036854775808) : Ret prog ea0 [vI n] (vS (sq0 n)) := by
 refine cm0 hF0 (by simp) ?_
 refine rS1 @dG0.eq_1 ?_
 refine ak0 ?_; simp; refine ah0 (nz0 n h0 h1) (by simp) ?_
 exact rT0
theorem hR0 (n : Int) (h0 : -9223372036854775808 <= n) (h1 : n < 9223372036854775808) : Ret prog j70 [vI n] (vS (sq0 n)) := by
 refine cm0 mV0 (by simp) ?_
 refine rS1 @iI0.eq_1 ?_
 refine ak0 ?_; simp; refine ah0 (k00 n h0 h1) (by simp) ?_
 exact rT0
theorem iD0 (b : Bool) : Ret prog fB0 [vB b] (vS (bS (if b then hJ0 else eI0))) := by
 have h : Ret prog cG0 [vB b] (vS (bS (if b then hJ0 else eI0))) := by
  refine cm0 eY0 (by simp) ?_
  cases b
  ·exact rT3 @bn0.eq_1 @hJ0.eq_1 @eI0.eq_1
  ·exact rT3 @bn0.eq_1 @hJ0.eq_1 @eI0.eq_1
 refine cm0 iO0 (by simp) ?_
 refine rS1 @eS0.eq_1 ?_
 refine ak0 ?_; simp; refine ah0 (h) (by simp) ?_
 exact rT0
def cutP (s p : ByteArray) : V := if (sB p).isPrefixOf (sB s) then .tup [vS (s.extract p.size s.size), vB true] else .tup [vS s, vB false]
theorem gF0 (s p : ByteArray) : Ret prog cf0 [vS s, vS p] (cutP s p) := by
 refine cm0 ee0 (by simp) ?_
 refine rS1 @b20.eq_1 ?_
 refine ak0 ?_; simp; refine ah0 (dm0 s p) (by simp) ?_
 unfold cutP
 cases h : (sB p).isPrefixOf (sB s) with
 | true =>
  have hle : p.size <= s.size := (List.isPrefixOf_iff_prefix.1 h).length_le
  exact rT0
 | false => simp +contextual (maxSteps := 2000000) (disch := omega) [-Int.not_lt, -Int.not_le, -Nat.not_lt, -Nat.not_le, sx]
@[simp] theorem cutP_pure (s p : ByteArray) : (cutP s p).pure = true := by unfold cutP; split <;> simp
theorem cS0 (s p : ByteArray) : Ret prog gm0 [vS s, vS p] (cutP s p) := by
 refine cm0 jT0 (by simp) ?_
 refine rS1 @fx0.eq_1 ?_
 refine ak0 ?_; simp; refine ah0 (gF0 s p) (by simp) ?_
 cases h : (sB p).isPrefixOf (sB s) with
 | true => simp +contextual (maxSteps := 2000000) (disch := omega) [-Int.not_lt, -Int.not_le, -Nat.not_lt, -Nat.not_le, sx, cutP, h]
 | false => simp +contextual (maxSteps := 2000000) (disch := omega) [-Int.not_lt, -Int.not_le, -Nat.not_lt, -Nat.not_le, sx, cutP, h]
def TEnd (ts : List Tok) : Prop := ∀ n, n < ts.length -> (tk ts n).kind ≠ 5 -> n + 1 < ts.length
variable {ts : List Tok} {n : Nat}
theorem aw0 (hE : TEnd ts) (hn : n < ts.length) {k : Int} {t : Bs} (h : isT ts n k t = true) (hk : k ≠ 5) : n + 1 < ts.length := by
 unfold isT at h
 simp only [Bool.and_eq_true, decide_eq_true_eq] at h
 exact hE n hn (by rw [h.1]; exact hk)
theorem al0 (hE : TEnd ts) (hn : n < ts.length) {t : Bs} {m : Nat} (h : bi0 ts n t = .ok m) : n < m /\ m < ts.length := by
 unfold bi0 at h
 split at h
 ·rename_i hi; injection h with h; subst h; exact ⟨by omega, aw0 hE hn hi (by decide)⟩
 ·cases h
theorem k80 (hE : TEnd ts) (hn : n < ts.length) {t : Bs} {m : Nat} (h : nf0 ts n t = .ok m) : n < m /\ m < ts.length := by
 unfold nf0 at h
 split at h
 ·rename_i hi; injection h with h; subst h; exact ⟨by omega, aw0 hE hn hi (by decide)⟩
 ·cases h
theorem a10 (hE : TEnd ts) (hn : n < ts.length) {a : Tok} {m : Nat} (h : dA0 ts n = .ok (a, m)) : n < m /\ m < ts.length := by
 unfold dA0 at h
 split at h
 ·rename_i hi; injection h with h; injection h with h1 h2; subst h2; exact ⟨by omega, hE n hn (by rw [hi.1]; decide)⟩
 ·cases h
theorem qX0 (hE : TEnd ts) (hn : n < ts.length) {a : Tok} {m : Nat} (h : pInt ts n = .ok (a, m)) : n < m /\ m < ts.length := by
 unfold pInt at h
 split at h
 ·rename_i hi; injection h with h; injection h with h1 h2; subst h2; exact ⟨by omega, hE n hn (by rw [hi]; decide)⟩
 ·cases h
theorem qY0 (hE : TEnd ts) (hn : n < ts.length) {a : Bs} {m : Nat} (h : pKey ts n = .ok (a, m)) : n < m /\ m < ts.length /\ a.length <= 4 := by
 unfold pKey at h
 split at h
 ·rename_i hi; injection h with h; injection h with h1 h2; subst h1; subst h2; exact ⟨by omega, aw0 hE hn hi (by decide), by decide⟩
 split at h
 ·rename_i hi; injection h with h; injection h with h1 h2; subst h1; subst h2; exact ⟨by omega, aw0 hE hn hi (by decide), by decide⟩
 ·cases h
theorem ag0 {α β : Type} {r : LxR α} {f : α -> LxR β} {b : β} (h : r.bind f = .ok b) : ∃ a, r = .ok a /\ f a = .ok b := by
 cases r with
 | ok a => exact ⟨a, rfl, h⟩
 | bad a e => cases h
theorem eP0 (hE : TEnd ts) : ∀ {r n : Nat}, n < ts.length -> ∀ {a : Bs} {m : Nat}, fL0 ts r n = .ok (a, m) -> n < m /\ m < ts.length /\ a.length <= 4 + 7 * r
 | 0, n, hn, a, m, h => by simp [fL0, e50] at h
 | r + 1, n, hn, a, m, h => by
  rw [fL0] at h
  split at h
  ·rename_i hi; injection h with h; injection h with h1 h2; subst h1; subst h2; exact ⟨by omega, aw0 hE hn hi (by decide), by simp [el0]⟩
  split at h
  ·rename_i hi
   have h0 := aw0 hE hn hi (by decide)
   obtain ⟨⟨t, n1⟩, e1, h⟩ := ag0 h
   obtain ⟨n2, e2, h⟩ := ag0 h
   injection h with h; injection h with h1 h2; subst h1; subst h2
   have := eP0 hE h0 e1
   have := al0 hE this.2.1 e2
   dsimp only at *
   refine ⟨by omega, by omega, by simp; omega⟩
  split at h
  ·rename_i hi
   have h0 := aw0 hE hn hi (by decide)
   obtain ⟨⟨k, n0⟩, e0, h⟩ := ag0 h
   obtain ⟨n1, e1, h⟩ := ag0 h
   obtain ⟨⟨t, n2⟩, e2, h⟩ := ag0 h
   obtain ⟨n3, e3, h⟩ := ag0 h
   injection h with h; injection h with h1 h2; subst h1; subst h2
   have q0 := qY0 hE h0 e0
   have q1 := al0 hE q0.2.1 e1
   have q2 := eP0 hE q1.2 e2
   have q3 := al0 hE q2.2.1 e3
   dsimp only at *
   refine ⟨by omega, by omega, by simp; omega⟩
  ·have := qY0 hE hn h; omega
theorem ig0 (hE : TEnd ts) (hn : n < ts.length) {a : Slo} {m : Nat} (h : ky0 ts n = .ok (a, m)) : n < m /\ m < ts.length := by
 unfold ky0 at h
 obtain ⟨⟨t, n1⟩, e1, h⟩ := ag0 h
 obtain ⟨n2, e2, h⟩ := ag0 h
 obtain ⟨⟨t, n3⟩, e3, h⟩ := ag0 h
 injection h with h; injection h with h1 h2; subst h2
 have q1 := a10 hE hn e1
 have q2 := al0 hE q1.2 e2
 have q3 := eP0 hE q2.2 e3
 dsimp only at *
 omega
abbrev bsV (b : Bs) : V := vS (bS b)
theorem fT0 (a b : Bs) : bS a ++ bS b = bS (a ++ b) := by
 apply ByteArray.ext; apply Array.ext'; simp
theorem dn0 (l : Bs) : (ByteArray.mk (Array.mk l)).size = l.length := rfl
theorem kf0 (hE : TEnd ts) (hl : ts.length < 2 ^ 40) (hn : n < ts.length) : J prog gM0 [.bp (.e 0) 0] (pObs ts n) (· = pAns ts bsV (pKey ts n)) := by
 refine at0 kq0 (by simp [pObs]) ?_
 refine rS4 @fW0.eq_1 @pObs.eq_1 @hpE.eq_1 @hpE.eq_2 ?_
 refine aO0 (fun y : Nat => 2 - y) (fun y => [(7, vI y), (6, vI 2), (5, .arr (.l 5 0) 0 2), (0, .bp (.e 0) 0)])
  (fun _ => [(.e 0, .box [.lst (ts.map Tok.cells), vI n]), (.l 5 0, .row 9 1 true [[vS (bS gE0)], [vS (bS dk0)]])])
  (fun y => y <= 2 /\ (0 < y -> isT ts n 1 gE0 = false) /\ (1 < y -> isT ts n 1 dk0 = false)) 0 (by simp) (Wk.subs (by simp) (by simp [gE0, dk0])) ?_
 rintro y ⟨hy, h1, h2⟩
 have : y = 0 \/ y = 1 \/ y = 2 := by omega
 rcases this with rfl | rfl | rfl
 ·refine rS0 ?_
  rw [aP0 (e := [vS (bS gE0)]) rfl]
  refine rS0 ?_
  refine aa0 [.e 0] ?_
  simp
  have hO := aj0 hn hl 1 gE0
  try simp [pObs] at hO
  refine ab0 13 hO ?_
  cases h : isT ts n 1 gE0 with
  | true =>
   refine rS0 ?_
   refine ax0 [] ?_
   exact rT5 @pKey.eq_1 h @pAns.eq_1 @pAns.eq_2 @pObs.eq_1
  | false =>
   refine rS0 ?_
   refine .of 1 ⟨by omega, fun q => absurd q (by omega)⟩ (by omega) (Wk.subs (by simp) (by simp))
 ·have h1 := h1 (by omega)
  refine rS0 ?_
  rw [aP0 (e := [vS (bS dk0)]) rfl]
  refine rS0 ?_
  refine aa0 [.e 0] ?_
  simp
  have hO := aj0 hn hl 1 dk0
  try simp [pObs] at hO
  refine ab0 13 hO ?_
  cases h : isT ts n 1 dk0 with
  | true =>
   refine rS0 ?_
   refine ax0 [] ?_
   exact rT6 @pKey.eq_1 h h1 @pAns.eq_1 @pAns.eq_2 @pObs.eq_1
  | false =>
   refine rS0 ?_
   refine .of 2 ⟨by omega, fun _ => h1⟩ (by omega) (Wk.subs (by simp) (by simp))
 ·have h1 := h1 (by omega)
  have h2 := h2 (by omega)
  refine rS0 ?_
  refine aa0 [.e 0] ?_
  simp
  have hO := aX0 hn 31
  try simp [pObs] at hO
  refine af0 hO ?_
  refine rS0 ?_
  refine endP ?_
  exact rT7 @pKey.eq_1 h1 h2 @pAns.eq_1 @pAns.eq_2 @pObs.eq_1 @e50.eq_1
theorem c90 (hE : TEnd ts) (hl : ts.length < 2 ^ 40) : ∀ (r d n : Nat), d + r = 5 -> n < ts.length -> J prog gg0 [.bp (.e 0) 0, vI d] (pObs ts n) (· = pAns ts bsV (fL0 ts r n))
 | 0, d, n, hd, hn => by
  have hd' : (4 : Int) < d := by omega
  refine at0 fC0 (by simp [pObs]) ?_
  refine rS5 @dp0.eq_1 @pObs.eq_1 @hpE.eq_1 @hpE.eq_2 hd' ?_
  refine aa0 [.e 0] ?_
  simp
  have hO := aX0 hn 32
  try simp [pObs] at hO
  refine af0 hO ?_
  refine rS0 ?_
  refine endP ?_
  exact rT6 @fL0.eq_1 @fL0.eq_2 @e50.eq_1 @pAns.eq_1 @pAns.eq_2 @pObs.eq_1
 | r + 1, d, n, hd, hn => by
  have hd' : ¬ (4 : Int) < d := by omega
  have hw : fL0 ts (r + 1) n = fL0 ts (r + 1) n := rfl
  conv at hw => rhs; rw [fL0]
  refine at0 fC0 (by simp [pObs]) ?_
  refine rS5 @dp0.eq_1 @pObs.eq_1 @hpE.eq_1 @hpE.eq_2 hd' ?_
  refine aa0 [.e 0] ?_
  simp
  have hO := aj0 hn hl 1 el0
  try simp [pObs] at hO
  refine ab0 14 hO ?_
  cases h1 : isT ts n 1 el0 with
  | true =>
   rw [h1] at hw
   simp only [if_true] at hw
   refine rS0 ?_
   refine ax0 [] ?_
   exact rT5 hw @pAns.eq_1 @pAns.eq_2 @pObs.eq_1 @el0.eq_1
  | false =>
  rw [h1] at hw
  refine rS0 ?_
  refine aa0 [.e 0] ?_
  simp
  have hO := aj0 hn hl 4 [91]
  try simp [pObs] at hO
  refine ab0 17 hO ?_
  cases h2 : isT ts n 4 [91] with
  | true =>
   have h0 := aw0 hE hn h2 (by decide)
   rw [h2] at hw
   simp only [Bool.false_eq_true, if_false, if_true] at hw
   refine rS0 ?_
   have hJ := c90 hE hl r (d + 1) (n + 1) (by omega) h0
   rcases hR21 : fL0 ts r (n + 1) with ⟨t,n1⟩ | ⟨aa, ae⟩
   rotate_left
   ·rw [hR21] at hJ hw
    try simp only [LxR.bind] at hw
    simp only [pAns, ar0] at hJ
    refine aa0 [.e 0] ?_
    simp
    have hO := hJ
    try simp [pObs] at hO
    refine af0 hO ?_
    refine rS0 ?_
    refine endP ?_
    exact rT6 hw @pAns.eq_1 @pAns.eq_2 @ar0.eq_1 @ar0.eq_2 @pObs.eq_1
   rw [hR21] at hJ hw
   try simp only [LxR.bind] at hw
   simp only [pAns, ar0] at hJ
   refine aa0 [.e 0] ?_
   simp
   have hO := hJ
   try simp [pObs] at hO
   refine ab0 21 hO ?_
   have q1 := eP0 hE h0 hR21
   refine rS0 ?_
   have hJ := aq0 q1.2.1 hl [93]
   rcases hR23 : bi0 ts n1 [93] with n2 | ⟨aa, ae⟩
   rotate_left
   ·rw [hR23] at hJ hw
    try simp only [LxR.bind] at hw
    simp only [pAns, ar0] at hJ
    refine aa0 [.e 0] ?_
    simp
    have hO := hJ
    try simp [pObs] at hO
    refine af0 hO ?_
    refine rS0 ?_
    refine endP ?_
    exact rT6 hw @pAns.eq_1 @pAns.eq_2 @ar0.eq_1 @ar0.eq_2 @pObs.eq_1
   rw [hR23] at hJ hw
   try simp only [LxR.bind] at hw
   simp only [pAns, ar0] at hJ
   refine aa0 [.e 0] ?_
   simp
   have hO := hJ
   try simp [pObs] at hO
   refine ab0 23 hO ?_
   refine rS2 @fT0 @dn0 ?_
   refine ax0 [] ?_
   exact rT4 hw @pAns.eq_1 @pAns.eq_2 @pObs.eq_1
  | false =>
  rw [h2] at hw
  refine rS0 ?_
  refine aa0 [.e 0] ?_
  simp
  have hO := aj0 hn hl 4 [123]
  try simp [pObs] at hO
  refine ab0 29 hO ?_
  cases h3 : isT ts n 4 [123] with
  | true =>
   have h0 := aw0 hE hn h3 (by decide)
   rw [h3] at hw
   simp only [Bool.false_eq_true, if_false, if_true] at hw
   refine rS0 ?_
   have hJ := kf0 hE hl h0
   rcases hR31 : pKey ts (n + 1) with ⟨k,n0⟩ | ⟨aa, ae⟩
   rotate_left
   ·rw [hR31] at hJ hw
    try simp only [LxR.bind] at hw
    simp only [pAns, ar0] at hJ
    refine aa0 [.e 0] ?_
    simp
    have hO := hJ
    try simp [pObs] at hO
    refine af0 hO ?_
    refine rS0 ?_
    refine endP ?_
    exact rT6 hw @pAns.eq_1 @pAns.eq_2 @ar0.eq_1 @ar0.eq_2 @pObs.eq_1
   rw [hR31] at hJ hw
   try simp only [LxR.bind] at hw
   simp only [pAns, ar0] at hJ
   refine aa0 [.e 0] ?_
   simp
   have hO := hJ
   try simp [pObs] at hO
   refine ab0 31 hO ?_
   have q0 := qY0 hE h0 hR31
   refine rS0 ?_
   have hJ := aq0 q0.2.1 hl [58]
   rcases hR33 : bi0 ts n0 [58] with n1 | ⟨aa, ae⟩
   rotate_left
   ·rw [hR33] at hJ hw
    try simp only [LxR.bind] at hw
    simp only [pAns, ar0] at hJ
    refine aa0 [.e 0] ?_
    simp
    have hO := hJ
    try simp [pObs] at hO
    refine af0 hO ?_
    refine rS0 ?_
    refine endP ?_
    exact rT6 hw @pAns.eq_1 @pAns.eq_2 @ar0.eq_1 @ar0.eq_2 @pObs.eq_1
   rw [hR33] at hJ hw
   try simp only [LxR.bind] at hw
   simp only [pAns, ar0] at hJ
   refine aa0 [.e 0] ?_
   simp
   have hO := hJ
   try simp [pObs] at hO
   refine ab0 33 hO ?_
   have q1 := al0 hE q0.2.1 hR33
   refine rS0 ?_
   have hJ := c90 hE hl r (d + 1) n1 (by omega) q1.2
   rcases hR37 : fL0 ts r n1 with ⟨t,n2⟩ | ⟨aa, ae⟩
   rotate_left
   ·rw [hR37] at hJ hw
    try simp only [LxR.bind] at hw
    simp only [pAns, ar0] at hJ
    refine aa0 [.e 0] ?_
    simp
    have hO := hJ
    try simp [pObs] at hO
    refine af0 hO ?_
    refine rS0 ?_
    refine endP ?_
    exact rT6 hw @pAns.eq_1 @pAns.eq_2 @ar0.eq_1 @ar0.eq_2 @pObs.eq_1
   rw [hR37] at hJ hw
   try simp only [LxR.bind] at hw
   simp only [pAns, ar0] at hJ
   refine aa0 [.e 0] ?_
   simp
   have hO := hJ
   try simp [pObs] at hO
   refine ab0 37 hO ?_
   have q2 := eP0 hE q1.2 hR37
   refine rS0 ?_
   have hJ := aq0 q2.2.1 hl [125]
   rcases hR39 : bi0 ts n2 [125] with n3 | ⟨aa, ae⟩
   rotate_left
   ·rw [hR39] at hJ hw
    try simp only [LxR.bind] at hw
    simp only [pAns, ar0] at hJ
    refine aa0 [.e 0] ?_
    simp
    have hO := hJ
    try simp [pObs] at hO
    refine af0 hO ?_
    refine rS0 ?_
    refine endP ?_
    exact rT6 hw @pAns.eq_1 @pAns.eq_2 @ar0.eq_1 @ar0.eq_2 @pObs.eq_1
   rw [hR39] at hJ hw
   try simp only [LxR.bind] at hw
   simp only [pAns, ar0] at hJ
   refine aa0 [.e 0] ?_
   simp
   have hO := hJ
   try simp [pObs] at hO
   refine ab0 39 hO ?_
   refine rS2 @fT0 @dn0 ?_
   refine ax0 [] ?_
   exact rT4 hw @pAns.eq_1 @pAns.eq_2 @pObs.eq_1
  | false =>
  rw [h3] at hw
  simp only [Bool.false_eq_true, if_false, if_true] at hw
  refine rS0 ?_
  have hJ := kf0 hE hl hn
  rcases hR47 : pKey ts n with ⟨k,n0⟩ | ⟨aa, ae⟩
  rotate_left
  ·rw [hR47] at hJ hw
   try simp only [LxR.bind] at hw
   simp only [pAns, ar0] at hJ
   refine aa0 [.e 0] ?_
   simp
   have hO := hJ
   try simp [pObs] at hO
   refine af0 hO ?_
   refine rS0 ?_
   refine endP ?_
   exact rT6 hw @pAns.eq_1 @pAns.eq_2 @ar0.eq_1 @ar0.eq_2 @pObs.eq_1
  rw [hR47] at hJ hw
  try simp only [LxR.bind] at hw
  simp only [pAns, ar0] at hJ
  refine aa0 [.e 0] ?_
  simp
  have hO := hJ
  try simp [pObs] at hO
  refine ab0 47 hO ?_
  refine rS0 ?_
  refine ax0 [] ?_
  exact rT4 hw @pAns.eq_1 @pAns.eq_2 @pObs.eq_1
def hasB (l : Bs) (c : UInt8) : Bool := l.contains c
def asV (l : Bs) : List V := (List.range 256).map fun b => vB (l.contains (UInt8.ofNat b))
@[simp] theorem asV_len (l : Bs) : (asV l).length = 256 := by simp [asV]
theorem ov0 (l : Bs) {j : Nat} (h : j < 256) : (asV l)[j]? = some (vB (l.contains (UInt8.ofNat j))) := by
 unfold asV
 rw [List.getElem?_map, List.getElem?_range h]; rfl
theorem jp0 (l : Bs) : kR0 (asV l) = true := by
 unfold asV kR0
 rw [List.all_eq_true]
 intro v hv
 obtain ⟨b, _, rfl⟩ := List.mem_map.1 hv
 rfl
section
variable {l : Bs} {K : V -> Prop} {Ks : List V -> Prop} {hp : Hp}
@[simp] theorem asV_has0 {i : Id} : V.hasL i (asV l) = false := fH0 (jp0 l) i
@[simp] theorem asV_scalars0 : scalars (asV l) = true := b60 (jp0 l)
@[simp] theorem asV_pure0 : V.bt0 (asV l) = true := ed0 (jp0 l)
@[simp] theorem asV_see0 {nl : Bool} {ks : List Id} : V.seeL nl ks hp (asV l) Ks = Ks (asV l) := gQ0 (jp0 l) nl ks Ks
@[simp] theorem asV_map0 {f : Id -> Option Id} : c60 f (asV l) Ks = Ks (asV l) := gP0 (jp0 l) f Ks
@[simp] theorem asV_hide0 {ks : List Id} : V.bq0 ks (asV l) = asV l := eX0 (jp0 l) ks
@[simp] theorem asV_take : (asV l).take 256 = asV l := List.take_of_length_le (by simp)
@[simp] theorem asV_drop : (asV l).drop 256 = [] := List.drop_of_length_le (by simp)
theorem asV_nth {c : UInt8} : nthK (asV l) c.toNat K = K (vB (hasB l c)) := by
 unfold hasB
 have h := c.toNat_lt
 rw [iV0, ov0 l h]
 apply propext
 constructor
 ·rintro ⟨v, e, hk⟩; injection e with e; subst e; simpa using hk
 ·intro hk; exact ⟨_, rfl, by simpa using hk⟩
end
theorem asV_set (l : Bs) (c : UInt8) : setAt (asV l) c.toNat [vB true] = asV (l ++ [c]) := by
 have hc := c.toNat_lt
 unfold setAt
 apply List.ext_getElem?
 intro j
 by_cases hj : j < 256
 ·rw [ov0 _ hj]
  rcases Nat.lt_trichotomy j c.toNat with h | h | h
  ·rw [List.append_assoc, List.getElem?_append_left (by simp; omega), List.getElem?_take, if_pos h, ov0 _ hj]
   have hne : ¬ UInt8.ofNat j = c := fun e => by
    have := congrArg UInt8.toNat e
    simp at this; omega
   have : (l ++ [c]).contains (UInt8.ofNat j) = l.contains (UInt8.ofNat j) := by
    rw [Bool.eq_iff_iff]; simp [hne]
   rw [this]
  ·subst h
   rw [List.append_assoc, List.getElem?_append_right (by simp; omega)]
   simp [Nat.min_eq_left (Nat.le_of_lt hc)]
  ·rw [List.append_assoc, List.getElem?_append_right (by simp; omega), List.getElem?_append_right (by simp; omega), List.getElem?_drop]
   have e : c.toNat + [vB true].length + (j - ((asV l).take c.toNat).length - [vB true].length) = j := by simp; omega
   rw [e, ov0 _ hj]
   have hne : ¬ UInt8.ofNat j = c := fun e => by
    have := congrArg UInt8.toNat e
    simp at this; omega
   have : (l ++ [c]).contains (UInt8.ofNat j) = l.contains (UInt8.ofNat j) := by
    rw [Bool.eq_iff_iff]; simp [hne]
   rw [this]
 ·rw [List.getElem?_eq_none (by simp; omega), List.getElem?_eq_none (by simp; omega)]
theorem asV_set' (l : Bs) (c : UInt8) : (asV l).take c.toNat ++ vB true :: (asV l).drop (c.toNat + 1) = asV (l ++ [c]) := by
 rw [<- asV_set]; simp [setAt]
def hT0 (l : Bs) : List Ob := [.box (asV l)]
theorem er0 (l : Bs) (c : UInt8) : J prog c30 [.bp (.e 0) 0, vU c] (hT0 l) (· = .ret (vB (hasB l c)) (hT0 l)) := by
 have hc := c.toNat_lt
 have hc' : (c.toNat : Int) < 256 := by omega
 refine at0 fI0 (by simp [hT0]) ?_
 refine rS5 @cT0.eq_1 @hT0.eq_1 @hpE.eq_1 @hpE.eq_2 hc' ?_
 rw [asV_nth]
 refine rS0 ?_
 refine ax0 [] ?_
 exact rT0
theorem cK0 (l : Bs) (i j : Nat) : (bS l).extract i j = bS ((l.drop i).take (j - i)) := by
 have h := dO0 (bS l) i j
 generalize (bS l).extract i j = x at h
 obtain ⟨⟨x⟩⟩ := x
 exact congrArg bS h
def iC0 (set s : Bs) : Bs := (s.reverse.dropWhile set.contains).reverse
def kF0 (set s : Bs) : Bs := s.dropWhile set.contains
theorem trimR_nil (set : Bs) : iC0 set [] = [] := rfl
theorem sL0 (set s : Bs) (c : UInt8) : iC0 set (s ++ [c]) = if hasB set c then iC0 set s else s ++ [c] := by
 unfold iC0 hasB
 rw [List.reverse_append]
 simp only [List.reverse_cons, List.reverse_nil, List.nil_append, List.singleton_append, List.dropWhile_cons]
 split
 ·rfl
 ·simp
theorem sK0 (set s : Bs) (c : UInt8) : kF0 set (c :: s) = if hasB set c then kF0 set s else c :: s := by
 unfold kF0 hasB
 rw [List.dropWhile_cons]
theorem kG0 (l s : Bs) (hs : s.length < 2 ^ 40) : J prog dL0 [vS (bS s), .bp (.e 0) 0] (hT0 l) (· = .ret (vS (bS (iC0 l s))) (hT0 l)) := by
 refine at0 g60 (by simp [hT0]) ?_
 refine rS4 @dv0.eq_1 @hT0.eq_1 @hpE.eq_1 @hpE.eq_2 ?_
 refine aO0 (fun r : Bs => r.length) (fun r => [(0, vS (bS r)), (1, .bp (.e 0) 0)]) (fun _ => [(.e 0, .box (asV l))]) (fun r => r.length <= s.length /\ iC0 l r = iC0 l s) s ⟨Nat.le_refl _, rfl⟩ (Wk.subs (by simp) (by simp)) ?_
 rintro r ⟨hr, ht⟩
 rcases List.eq_nil_or_concat r with rfl | ⟨r', c, rfl⟩
 ·rw [<- ht]
  refine rS1 @dn0 ?_
  refine ax0 [] ?_
  exact rT1 @trimR_nil
 ·rw [List.concat_eq_append] at *
  have hsz : (bS (r' ++ [c])).size = r'.length + 1 := by rw [dn0]; simp
  have hpos : (0 : Int) < (r'.length : Int) + 1 := by omega
  have hr' : r'.length + 1 <= s.length := by simpa using hr
  have hget : (r' ++ [c])[r'.length]? = some c := by simp
  refine rS3 hsz hpos hget ?_
  refine aa0 [.e 0] ?_
  simp
  have hO := er0 l c
  try simp [hT0] at hO
  refine ab0 14 hO ?_
  rw [sL0] at ht
  cases h : hasB l c with
  | true =>
   rw [h, if_pos rfl] at ht
   refine rS2 hsz @cK0 ?_
   refine .of r' ⟨by omega, ht⟩ (by simp) (Wk.subs (by simp) (by simp))
  | false =>
   rw [h, if_neg (by simp)] at ht
   rw [<- ht]
   refine rS0 ?_
   refine ax0 [] ?_
   exact rT0
theorem lj0 (l s : Bs) (hs : s.length < 2 ^ 40) : J prog ec0 [vS (bS s), .bp (.e 0) 0] (hT0 l) (· = .ret (vS (bS (kF0 l s))) (hT0 l)) := by
 refine at0 hH0 (by simp [hT0]) ?_
 refine rS4 @dI0.eq_1 @hT0.eq_1 @hpE.eq_1 @hpE.eq_2 ?_
 refine aO0 (fun r : Bs => r.length) (fun r => [(0, vS (bS r)), (1, .bp (.e 0) 0)]) (fun _ => [(.e 0, .box (asV l))]) (fun r => r.length <= s.length /\ kF0 l r = kF0 l s) s ⟨Nat.le_refl _, rfl⟩ (Wk.subs (by simp) (by simp)) ?_
 rintro r ⟨hr, ht⟩
 cases r with
 | nil =>
  rw [<- ht]
  refine rS1 @dn0 ?_
  refine ax0 [] ?_
  exact rT1 @kF0.eq_1
 | cons c r' =>
  have hsz : (bS (c :: r')).size = r'.length + 1 := by rw [dn0]; simp
  have hpos : (0 : Int) < (r'.length : Int) + 1 := by omega
  have hr' : r'.length + 1 <= s.length := by simpa using hr
  refine rS2 hsz hpos ?_
  refine aa0 [.e 0] ?_
  simp
  have hO := er0 l c
  try simp [hT0] at hO
  refine ab0 11 hO ?_
  rw [sK0] at ht
  cases h : hasB l c with
  | true =>
   rw [h, if_pos rfl] at ht
   refine rS2 hsz @cK0 ?_
   refine .of r' ⟨by omega, ht⟩ (by simp) (Wk.subs (by simp) (by simp))
  | false =>
   rw [h, if_neg (by simp)] at ht
   rw [<- ht]
   refine rS0 ?_
   refine ax0 [] ?_
   exact rT0
end Go.Am
end

section
namespace Go.Am
def eq0 (s : Bs) : Bool := decide (s = gE0) || decide (s = el0) || decide (s = dk0)
def dl0 : Bs := [123, 105, 110, 116, 58]
def ce0 : Bs := [123, 116, 101, 120, 116, 58]
def tyB : Nat -> Bs -> Bool
 | 0, s => eq0 s
 | r + 1, s =>
  if eq0 s then true
  else if s.length < 2 then false
  else if [91].isPrefixOf s.dropLast then decide (s.getLast? = some 93) && tyB r (s.dropLast.drop 1)
  else if dl0.isPrefixOf s.dropLast then decide (s.getLast? = some 125) && tyB r (s.dropLast.drop 5)
  else if ce0.isPrefixOf s.dropLast then decide (s.getLast? = some 125) && tyB r (s.dropLast.drop 6)
  else false
inductive IsTy : Nat -> Bs -> Prop
 | base {s : Bs} (h : eq0 s = true) : IsTy 1 s
 | list {d : Nat} {s : Bs} (h : IsTy d s) : IsTy (d + 1) ([91] ++ s ++ [93])
 | mapI {d : Nat} {s : Bs} (h : IsTy d s) : IsTy (d + 1) (dl0 ++ s ++ [125])
 | mapT {d : Nat} {s : Bs} (h : IsTy d s) : IsTy (d + 1) (ce0 ++ s ++ [125])
theorem jn0 {s : Bs} (h : eq0 s = true) : s = gE0 \/ s = el0 \/ s = dk0 := by
 simpa [eq0, or_assoc] using h
theorem nv0 {s : Bs} (h : eq0 s = true) : s.head? = some 105 \/ s.head? = some 98 \/ s.head? = some 116 := by
 rcases jn0 h with rfl | rfl | rfl <;> simp [gE0, el0, dk0]
theorem rb0 (s : Bs) : eq0 ([91] ++ s) = false := by
 rw [<- Bool.not_eq_true]; intro h; have := nv0 h; simp at this
theorem on0 (s : Bs) : eq0 (123 :: s) = false := by
 rw [<- Bool.not_eq_true]; intro h; have := nv0 h; simp at this
theorem ty_pos {d : Nat} {s : Bs} (h : IsTy d s) : 0 < d := by cases h <;> omega
theorem tyB_list (r : Nat) (s : Bs) : tyB (r + 1) ([91] ++ s ++ [93]) = tyB r s := by
 rw [tyB]
 have h0 : eq0 ([91] ++ s ++ [93]) = false := by rw [List.append_assoc]; exact rb0 _
 have h1 : ([91] ++ s ++ [93] : Bs).dropLast = [91] ++ s := List.dropLast_concat
 have h2 : ([91] ++ s ++ [93] : Bs).getLast? = some 93 := List.getLast?_concat
 rw [h0, h1, h2]
 simp
theorem tyB_mapI (r : Nat) (s : Bs) : tyB (r + 1) (dl0 ++ s ++ [125]) = tyB r s := by
 rw [tyB]
 have h0 : eq0 (dl0 ++ s ++ [125]) = false := on0 _
 have h1 : (dl0 ++ s ++ [125] : Bs).dropLast = dl0 ++ s := List.dropLast_concat
 have h2 : (dl0 ++ s ++ [125] : Bs).getLast? = some 125 := List.getLast?_concat
 rw [h0, h1, h2]
 simp [dl0]
theorem tyB_mapT (r : Nat) (s : Bs) : tyB (r + 1) (ce0 ++ s ++ [125]) = tyB r s := by
 rw [tyB]
 have h0 : eq0 (ce0 ++ s ++ [125]) = false := on0 _
 have h1 : (ce0 ++ s ++ [125] : Bs).dropLast = ce0 ++ s := List.dropLast_concat
 have h2 : (ce0 ++ s ++ [125] : Bs).getLast? = some 125 := List.getLast?_concat
 rw [h0, h1, h2]
 simp [ce0, dl0]
theorem tyB_ty {d : Nat} {s : Bs} (h : IsTy d s) : ∀ r, tyB r s = decide (d <= r + 1) := by
 induction h with
 | base h => intro r; cases r <;> simp [tyB, h]
 | list h ih => intro r; cases r with
  | zero => simp [tyB, eq0]; have := ty_pos h; simp [gE0, el0, dk0]; omega
  | succ r => rw [tyB_list, ih]; simp
 | mapI h ih => intro r; cases r with
  | zero => simp [tyB, eq0]; have := ty_pos h; simp [gE0, el0, dk0, dl0]; omega
  | succ r => rw [tyB_mapI, ih]; simp
 | mapT h ih => intro r; cases r with
  | zero => simp [tyB, eq0]; have := ty_pos h; simp [gE0, el0, dk0, ce0]; omega
  | succ r => rw [tyB_mapT, ih]; simp
theorem hZ0 {s : Bs} {c : UInt8} (h : s.getLast? = some c) : s = s.dropLast ++ [c] := by
 have hne : s ≠ [] := by rintro rfl; simp at h
 rw [List.getLast?_eq_some_getLast hne] at h
 injection h with h
 conv => lhs; rw [<- List.dropLast_concat_getLast hne, h]
theorem tyB_is {r : Nat} {s : Bs} (h : tyB r s = true) : ∃ d, IsTy d s /\ d <= r + 1 := by
 induction r generalizing s with
 | zero => exact ⟨1, .base (by simpa [tyB] using h), by omega⟩
 | succ r ih =>
  rw [tyB] at h
  split at h
  ·exact ⟨1, .base ‹_›, by omega⟩
  split at h
  ·cases h
  split at h
  ·rename_i hp
   obtain ⟨t, ht⟩ := List.isPrefixOf_iff_prefix.1 hp
   simp only [Bool.and_eq_true, decide_eq_true_eq] at h
   rw [<- ht] at h
   change _ /\ tyB r t = true at h
   obtain ⟨d, hd, hle⟩ := ih h.2
   have e := hZ0 h.1
   rw [<- ht] at e
   rw [e]; exact ⟨d + 1, .list hd, by omega⟩
  split at h
  ·rename_i hp
   obtain ⟨t, ht⟩ := List.isPrefixOf_iff_prefix.1 hp
   simp only [Bool.and_eq_true, decide_eq_true_eq] at h
   rw [<- ht] at h
   change _ /\ tyB r t = true at h
   obtain ⟨d, hd, hle⟩ := ih h.2
   have e := hZ0 h.1
   rw [<- ht] at e
   rw [e]; exact ⟨d + 1, .mapI hd, by omega⟩
  split at h
  ·rename_i hp
   obtain ⟨t, ht⟩ := List.isPrefixOf_iff_prefix.1 hp
   simp only [Bool.and_eq_true, decide_eq_true_eq] at h
   rw [<- ht] at h
   change _ /\ tyB r t = true at h
   obtain ⟨d, hd, hle⟩ := ih h.2
   have e := hZ0 h.1
   rw [<- ht] at e
   rw [e]; exact ⟨d + 1, .mapT hd, by omega⟩
  ·cases h
end Go.Am
end

section
namespace Go.Am
def c70 (s : Bs) : Bool := decide (s ≠ []) && decide (s.length <= 16) && !(am0.contains (s.headD 0)) && s.all (fun c => (av0 ++ am0).contains c) && !(qQ0.contains s)
def rc0 (s : Bs) : Bool := tyB 3 s
def hP0 (s : Bs) : Bool := decide (s.length <= 256) && s.all (fun c => decide (32 <= c /\ c <= 126))
def kg0 (s : Bs) : Bs := [34] ++ s.flatMap (fun c => if c = 92 then [92, 92] else if c = 34 then [92, 34] else [c]) ++ [34]
def numB (n : Int) : Bs := Lib.itoa n
def sepB (ts : List Bs) : Bs := (ts.mapIdx fun i t => (if i = 0 then [] else [44, 32]) ++ t).flatten
def opOk (op : Int) : Bool := decide (1 <= op /\ op <= 13)
def lvl (op : Int) : Int := if op <= 2 then op else if op <= 8 then 3 else if op <= 10 then 4 else 5
def opB (op : Int) : Bs := pOps.getD (op.toNat - 1) []
def within (s : Bs) (b : Bool) : Bs := if b then [40] ++ s ++ [41] else s
def dS0 (x : Exq) (n : Int) : Bool := decide (x.kind = 15) && decide (lvl x.op < n)
def oO0 (x : Exq) : Bool := decide (x.kind = 15 \/ x.kind = 13 \/ x.kind = 14)
mutual
def shE : Exq -> Option Bs
 | .mk k op num text slot type args at_ =>
  if k = 1 then (if args = [] /\ 0 <= num then some (numB num) else none)
  else if k = 2 then (if args = [] /\ (num = 0 \/ num = 1) then some (if num = 1 then hJ0 else eI0) else none)
  else if k = 3 then (if args = [] /\ hP0 (sB text) = true then some (kg0 (sB text)) else none)
  else if k = 6 then (if args = [] /\ c70 (sB text) = true then some (sB text) else none)
  else if k = 7 then (if c70 (sB text) = true then (shL args).map fun l => sB text ++ [40] ++ sepB l ++ [41] else none)
  else if k = 12 then (match args, shL args with
   | [x, y], some [a, b] => some (within a (oO0 x) ++ [91] ++ b ++ [93])
   | _, _ => none)
  else if k = 13 \/ k = 14 then (match args, shL args with
   | [x], some [a] => some ((if k = 13 then [45] else [33]) ++ within a (decide (x.kind = 15)))
   | _, _ => none)
  else if k = 15 then (match args, shL args with
   | [x, y], some [a, b] => if opOk op then some (within a (dS0 x (if lvl op = 3 then 4 else lvl op)) ++ [32] ++ opB op ++ [32] ++ within b (dS0 y (lvl op + 1))) else none
   | _, _ => none)
  else none
def shL : List Exq -> Option (List Bs)
 | [] => some []
 | x :: l => match shE x, shL l with
  | some a, some b => some (a :: b)
  | _, _ => none
end
mutual
def plE : Exq -> Bool
 | .mk k op num text slot type args at_ => decide (num < 9223372036854775808 /\ args.length < 1073741824) && plL args
def plL : List Exq -> Bool
 | [] => true
 | x :: l => plE x && plL l
end
def tabs (n : Nat) : Bs := List.replicate n 9
mutual
def shS (n : Nat) : Stm -> Option Bs
 | .mk k name slot state num e body els at_ =>
  if k = 1 then (match shL e with
   | some [a] => if c70 (sB name) = true then some (fg0 ++ [32] ++ sB name ++ [32, 61, 32] ++ a ++ [59]) else none
   | _ => none)
  else if k = 2 then (match shL e with
   | some [a] => if c70 (sB name) = true then some (em0 ++ [32] ++ sB name ++ [32, 61, 32] ++ a ++ [59]) else none
   | some [a, b] => if c70 (sB name) = true then some (em0 ++ [32] ++ sB name ++ [91] ++ a ++ [93] ++ [32, 61, 32] ++ b ++ [59]) else none
   | _ => none)
  else if k = 3 then (match shL e with
   | some [a] => if c70 (sB name) = true then some (fe0 ++ [32] ++ sB name ++ [91] ++ a ++ [93, 59]) else none
   | _ => none)
  else if k = 4 then (match shL e, shB n body, shB n els with
   | some [a], some b, some c => some (kwIf ++ [32] ++ a ++ [32] ++ b ++ (if els = [] then [] else [32] ++ cp0 ++ [32] ++ c))
   | _, _, _ => none)
  else if k = 5 then (match shL e, shB n body with
   | some [a], some b => if c70 (sB name) = true then some (ff0 ++ [32] ++ sB name ++ [32] ++ kwTo ++ [32] ++ a ++ [32] ++ b) else none
   | _, _ => none)
  else if k = 6 then (match shL e with
   | some [a] => some (fh0 ++ [32] ++ a ++ [59])
   | _ => none)
  else none
def shB (n : Nat) : List Stm -> Option Bs
 | [] => some [123, 125]
 | x :: l => match shS (n + 1) x, shT n l with
  | some a, some b => some ([123, 10] ++ (tabs (n + 1) ++ a ++ [10] ++ b) ++ tabs n ++ [125])
  | _, _ => none
def shT (n : Nat) : List Stm -> Option Bs
 | [] => some []
 | x :: l => match shS (n + 1) x, shT n l with
  | some a, some b => some (tabs (n + 1) ++ a ++ [10] ++ b)
  | _, _ => none
end
theorem rN0 (n : Nat) (x : Stm) (l : List Stm) : shB n (x :: l) = (shT n (x :: l)).map fun t => [123, 10] ++ t ++ tabs n ++ [125] := by
 rw [shB.eq_def, shT.eq_def]
 dsimp only
 cases shS (n + 1) x <;> cases shT n l <;> rfl
mutual
def plS : Stm -> Bool
 | .mk k name slot state num e body els at_ => plL e && decide (e.length < 1073741824 /\ body.length < 1073741824 /\ els.length < 1073741824) && plB body && plB els
def plB : List Stm -> Bool
 | [] => true
 | x :: l => plS x && plB l
end
def iv0 (s : Slo) : Option Bs := if rc0 (sB s.type) && c70 (sB s.name) then some (sB s.name ++ [58, 32] ++ sB s.type) else none
def cR0 : List Slo -> Option (List Bs)
 | [] => some []
 | s :: l => match iv0 s, cR0 l with
  | some a, some b => some (a :: b)
  | _, _ => none
def cA0 : List Slo -> Option Bs
 | [] => some []
 | s :: l => match iv0 s, cA0 l with
  | some a, some b => some (fi0 ++ [32] ++ a ++ [59, 10] ++ b)
  | _, _ => none
def qp0 (f : Fun) : Option Bs :=
 match cR0 f.params, shB 0 f.body with
 | some ps, some b => if rc0 (sB f.result) && c70 (sB f.name) then some ((if f.on then kwOn else kwFn) ++ [32] ++ sB f.name ++ [40] ++ sepB ps ++ [41, 58, 32] ++ sB f.result ++ [32] ++ b ++ [10]) else none
 | _, _ => none
def gz0 : List Fun -> Option Bs
 | [] => some []
 | f :: l => match qp0 f, gz0 l with
  | some a, some b => some (a ++ b)
  | _, _ => none
def shP (p : Prg) : Option Bs :=
 if 0 <= p.version then match cA0 p.states, gz0 p.fns with
  | some a, some b => some (cI0 ++ [32] ++ numB p.version ++ [59, 10] ++ a ++ b)
  | _, _ => none
 else none
end Go.Am
end

section
namespace Go.Am
set_option maxRecDepth 100000
attribute [local irreducible] vc vcIs vcI vcOp vcD vcDp vcDR vcT vcAR bV0 aY0 panD neG ne pv J bH0 bM0 bY0 bd0 evK evsK nthK objK boxK rowK bz0 intK strK aggK fnK ifcK ay0 az0 ldK ldaK iaK srcK stK appK appD b00 pvK bC0 aW0 bL0 bs0 slAV bG0
set_option maxHeartbeats 3200000 in
theorem lz0 (s : Bs) (hs : s.length < 2 ^ 20) (ha : ∀ c ∈ s, c.toNat < 128) : Ret prog ez0 [vS (bS s)] (.tup [.agg (asV s), vB true]) := by
 have hsz : (bS s).size = s.length := rfl
 refine at0 ib0 (by simp) ?_
 refine rS1 @dZ0.eq_1 ?_
 refine aN0 s.length (fun i => [(4, vI i), (2, .bp (.l 2 0) 0), (0, vS (bS s))]) (fun i => [(.l 2 0, .box (asV (s.take i)))]) (Wk.subs (by simp) (by simp; rfl)) ?_
 intro i hi
 by_cases hlt : i < s.length
 ·have hlt' : (i : Int) < s.length := by omega
  have hc := ha _ (List.getElem_mem hlt)
  have hget : s[i]? = some s[i] := List.getElem?_eq_getElem hlt
  have htk : s.take (i + 1) = s.take i ++ [s[i]] := by rw [List.take_add_one, hget]; rfl
  have hset := asV_set' (s.take i) s[i]
  rw [<- htk] at hset
  have hc' : ¬ (128 : Int) <= (s[i].toNat : Int) := by omega
  have hc2 : (s[i].toNat : Int) < 256 := by omega
  refine rS5 hsz hlt' hget hc' hc2 ?_
  refine .of hlt (Wk.subs (by simp) (by simp [hset]))
 ·have hge' : ¬ (i : Int) < s.length := by omega
  have : i = s.length := by omega
  subst this
  refine rS2 hsz hge' ?_
  refine ax0 [] ?_
  exact rT0
set_option maxHeartbeats 3200000 in
theorem lN0 (s cut : Bs) (hs : s.length < 2 ^ 40) (h1 : 1 < cut.length) (h2 : cut.length < 2 ^ 20) (ha : ∀ c ∈ cut, c.toNat < 128) : Ret prog j80 [vS (bS s), vS (bS cut)] (vS (bS (kF0 cut (iC0 cut s)))) := by
 have hsz : (bS cut).size = cut.length := rfl
 have hne : ¬ cut = [] := by rintro rfl; simp at h1
 have h1' : ¬ (cut.length : Int) = 1 := by omega
 refine at0 mX0 (by simp) ?_
 by_cases he : s = []
 ·subst he
  refine rS1 @fY0.eq_1 ?_
  refine ax0 [] ?_
  exact rT2 @kF0.eq_1 @iC0.eq_1
 refine rS5 @fY0.eq_1 he hne hsz h1' ?_
 refine ak0 ?_; simp; refine ah0 (lz0 cut h2 ha) (by simp) ?_
 refine rS0 ?_
 have hr : (iC0 cut s).length < 2 ^ 40 := by
  unfold iC0
  have := (List.dropWhile_sublist (l := s.reverse) cut.contains).length_le
  rw [List.length_reverse] at this ⊢; omega
 refine aa0 [.l 5 0] ?_
 simp
 have hO := kG0 cut s hs
 try simp [hT0] at hO
 refine ab0 36 hO ?_
 refine rS0 ?_
 refine aa0 [.l 5 0] ?_
 simp
 have hO := lj0 cut (iC0 cut s) hr
 try simp [hT0] at hO
 refine ab0 37 hO ?_
 refine rS0 ?_
 refine ax0 [] ?_
 exact rT0
theorem oE0 (p : UInt8 -> Bool) (r : Bs) : (r.dropWhile p).all p = r.all p := by
 induction r with
 | nil => rfl
 | cons a r ih =>
  rw [List.dropWhile_cons]
  split
  ·rename_i h; rw [ih, List.all_cons, h]; rfl
  ·rfl
theorem dropWhile_nil (p : UInt8 -> Bool) (r : Bs) : r.dropWhile p = [] ↔ r.all p = true := by
 induction r with
 | nil => simp
 | cons a r ih =>
  rw [List.dropWhile_cons, List.all_cons]
  cases p a with
  | true => simpa using ih
  | false => simp
theorem trim_nil (set s : Bs) : kF0 set (iC0 set s) = [] ↔ s.all set.contains = true := by
 unfold kF0
 rw [dropWhile_nil]
 unfold iC0
 rw [List.all_reverse, oE0, List.all_reverse]
def pm0 (s : Bs) : Bool := decide (s ≠ []) && decide (s.length <= 16) && !(am0.contains (s.headD 0)) && s.all (fun c => (av0 ++ am0).contains c)
theorem nameB_eq (s : Bs) : c70 s = (pm0 s && !(qQ0.contains s)) := rfl
theorem oQ0 (s : Bs) (hs : s.length < 2 ^ 40) : Ret prog nY0 [vS (bS s)] (vB (pm0 s)) := by
 have hsz : (bS s).size = s.length := rfl
 refine cm0 qO0 (by simp) ?_
 cases s with
 | nil => simp +contextual (maxSteps := 2000000) (disch := omega) [-Int.not_lt, -Int.not_le, -Nat.not_lt, -Nat.not_le, sx, hU0, pm0]
 | cons c s =>
 by_cases h16 : s.length + 1 <= 16
 rotate_left
 ·have h16' : ¬ (s.length : Int) + 1 <= 16 := by omega
  exact rT5 @hU0.eq_1 hsz h16' @pm0.eq_1 h16
 have h16' : (s.length : Int) + 1 <= 16 := by omega
 refine rS3 @hU0.eq_1 hsz h16' ?_
 refine ak0 ?_; simp; refine ah0 (aL0 ⟨⟨am0⟩⟩ c) (by simp) ?_
 rw [show sB ⟨⟨am0⟩⟩ = am0 from rfl]
 have hm := b80 am0 c
 cases hd : am0.contains c with
 | true =>
  have hI : ¬ Lib.indexByte am0 c < 0 := by have := hm.2 hd; omega
  have hw : pm0 (c :: s) = false := by
   unfold pm0
   rw [show List.headD (c :: s) 0 = c from rfl, hd]; simp
  exact rT2 hI hw
 | false =>
  have hI : Lib.indexByte am0 c < 0 := by
   have : ¬ 0 <= Lib.indexByte am0 c := fun h => by rw [hm.1 h] at hd; cases hd
   omega
  refine rS1 hI ?_
  refine ak0 ?_; simp; refine ah0 (lN0 (c :: s) (av0 ++ am0) hs (by decide) (by decide) (by decide)) (by simp) ?_
  have ht := trim_nil (av0 ++ am0) (c :: s)
  have hb : eqS (bS (kF0 (av0 ++ am0) (iC0 (av0 ++ am0) (c :: s)))) (bS []) = pm0 (c :: s) := by
   unfold eqS pm0
   rw [Bool.eq_iff_iff, decide_eq_true_eq]
   have h3 : bS (kF0 (av0 ++ am0) (iC0 (av0 ++ am0) (c :: s))) = bS [] ↔ kF0 (av0 ++ am0) (iC0 (av0 ++ am0) (c :: s)) = [] := ⟨fun h => congrArg sB h, fun h => by rw [h]⟩
   rw [h3, ht]
   have h4 : (List.headD (c :: s) 0) = c := rfl
   rw [h4, hd]
   simp [h16]
  generalize kF0 (av0 ++ am0) (iC0 (av0 ++ am0) (c :: s)) = x at *
  rw [<- hb]
  exact rT1 @eqS.eq_1
abbrev noneV : V := .ifc 61 (.agg [])
def mRes (b : Bool) (v : V) : Res := if b then .ret v [] else .pan noneV []
theorem ki0 (b : Bool) : J prog h40 [vB b] [] (· = mRes b (.tup [])) := by
 refine at0 pI0 (by simp) ?_
 cases b with
 | true =>
  refine rS1 @iH0.eq_1 ?_
  refine bX0 [] ?_
  exact rT1 @mRes.eq_1
 | false =>
  refine rS1 @iH0.eq_1 ?_
  refine endP ?_
  exact rT1 @mRes.eq_1
theorem an0 : J prog h40 [vB true] [] (· = .ret (.tup []) []) := ki0 true
theorem jj0 : J prog h40 [vB false] [] (· = .pan noneV []) := ki0 false
theorem nU0 (s : Bs) (hs : s.length < 2 ^ 40) : J prog eD0 [vS (bS s)] [] (· = mRes (c70 s) (vS (bS s))) := by
 refine at0 pJ0 (by simp) ?_
 generalize hn : c70 s = nb
 rw [nameB_eq] at hn
 refine rS1 @lT0.eq_1 ?_
 refine ak0 ?_; simp; refine ah0 (oQ0 s hs) (by simp) ?_
 cases h1 : pm0 s with
 | false =>
  rw [h1] at hn; subst hn
  refine rS0 ?_
  refine aa0 [] ?_
  simp
  have hO := jj0
  try simp [hT0] at hO
  refine af0 hO ?_
  refine rS0 ?_
  refine endP ?_
  exact rT1 @mRes.eq_1
 | true =>
  refine rS0 ?_
  refine ak0 ?_; simp; refine ah0 (gu0 (bS s)) (by simp) ?_
  have hr : e70 (bS s) = qQ0.contains s := rfl
  rw [hr]
  cases h2 : qQ0.contains s with
  | true =>
   rw [h1, h2] at hn; subst hn
   refine rS0 ?_
   refine aa0 [] ?_
   simp
   have hO := jj0
   try simp [hT0] at hO
   refine af0 hO ?_
   refine rS0 ?_
   refine endP ?_
   exact rT1 @mRes.eq_1
  | false =>
   rw [h1, h2] at hn; subst hn
   refine rS0 ?_
   refine aa0 [] ?_
   simp
   have hO := an0
   try simp [hT0] at hO
   refine ab0 10 hO ?_
   refine rS0 ?_
   refine ax0 [] ?_
   exact rT1 @mRes.eq_1
theorem tyB_snoc {r : Nat} {l : Bs} {c : UInt8} (hb : eq0 (l ++ [c]) = false) (hl : l ≠ []) : tyB (r + 1) (l ++ [c]) =
  (if [91].isPrefixOf l then decide (c = 93) && tyB r (l.drop 1)
  else if dl0.isPrefixOf l then decide (c = 125) && tyB r (l.drop 5)
  else if ce0.isPrefixOf l then decide (c = 125) && tyB r (l.drop 6)
  else false) := by
 have h2 : ¬ (l ++ [c]).length < 2 := by
  have := List.length_pos_iff.2 hl
  simp; omega
 rw [tyB, hb, List.dropLast_concat, List.getLast?_concat]
 simp only [Bool.false_eq_true, if_false, if_neg h2, Option.some.injEq]
theorem jH0 {r : Nat} {s : Bs} (h : eq0 s = true) : tyB r s = true := by cases r <;> simp [tyB, h]
theorem nT0 : ∀ (r d : Nat) (s : Bs), d + r = 4 -> s.length < 2 ^ 40 -> Ret prog mQ0 [vS (bS s), vI d] (vB (tyB r s)) := by
 intro r
 induction r with
 | zero =>
  intro d s hd hs
  have hd4 : d = 4 := by omega
  subst hd4
  refine at0 l40 (by simp) ?_
  by_cases h1 : s = gE0
  ·subst h1
   refine rS2 @bo0.eq_1 @gE0.eq_1 ?_
   refine ax0 [] ?_
   simp +contextual (maxSteps := 2000000) (disch := omega) [-Int.not_lt, -Int.not_le, -Nat.not_lt, -Nat.not_le, sx, jH0 (s := [105, 110, 116]) (by decide)]
  by_cases h2 : s = el0
  ·subst h2
   refine rS2 @bo0.eq_1 @el0.eq_1 ?_
   refine ax0 [] ?_
   simp +contextual (maxSteps := 2000000) (disch := omega) [-Int.not_lt, -Int.not_le, -Nat.not_lt, -Nat.not_le, sx, jH0 (s := [98, 111, 111, 108]) (by decide)]
  by_cases h3 : s = dk0
  ·subst h3
   refine rS2 @bo0.eq_1 @dk0.eq_1 ?_
   refine ax0 [] ?_
   simp +contextual (maxSteps := 2000000) (disch := omega) [-Int.not_lt, -Int.not_le, -Nat.not_lt, -Nat.not_le, sx, jH0 (s := [116, 101, 120, 116]) (by decide)]
  have hb : tyB 0 s = false := by simp [tyB, eq0, h1, h2, h3]
  rw [hb]
  have h1' : ¬ s = [105, 110, 116] := h1
  have h2' : ¬ s = [98, 111, 111, 108] := h2
  have h3' : ¬ s = [116, 101, 120, 116] := h3
  have hsz : (bS s).size = s.length := rfl
  by_cases hl : s.length < 2
  ·have hl' : (s.length : Int) < 2 := by omega
   refine rS6 @bo0.eq_1 h1' h2' h3' hsz hl' ?_
   refine ax0 [] ?_
   exact rT0
  ·have hl' : ¬ (s.length : Int) < 2 := by omega
   refine rS6 @bo0.eq_1 h1' h2' h3' hsz hl' ?_
   refine ax0 [] ?_
   exact rT0
 | succ r ih =>
  intro d s hd hs
  have hd3 : d <= 3 := by omega
  have hd4 : (d : Int) <= 4 := by omega
  have hd4' : ¬ (4 : Int) <= d := by omega
  refine at0 l40 (by simp) ?_
  by_cases h1 : s = gE0
  ·subst h1
   refine rS3 @bo0.eq_1 @gE0.eq_1 hd4 ?_
   refine ax0 [] ?_
   simp +contextual (maxSteps := 2000000) (disch := omega) [-Int.not_lt, -Int.not_le, -Nat.not_lt, -Nat.not_le, sx, jH0 (s := [105, 110, 116]) (by decide), hd4]
  by_cases h2 : s = el0
  ·subst h2
   refine rS3 @bo0.eq_1 @el0.eq_1 hd4 ?_
   refine ax0 [] ?_
   simp +contextual (maxSteps := 2000000) (disch := omega) [-Int.not_lt, -Int.not_le, -Nat.not_lt, -Nat.not_le, sx, jH0 (s := [98, 111, 111, 108]) (by decide), hd4]
  by_cases h3 : s = dk0
  ·subst h3
   refine rS3 @bo0.eq_1 @dk0.eq_1 hd4 ?_
   refine ax0 [] ?_
   simp +contextual (maxSteps := 2000000) (disch := omega) [-Int.not_lt, -Int.not_le, -Nat.not_lt, -Nat.not_le, sx, jH0 (s := [116, 101, 120, 116]) (by decide), hd4]
  have hb : eq0 s = false := by simp [eq0, h1, h2, h3]
  have h1' : ¬ s = [105, 110, 116] := h1
  have h2' : ¬ s = [98, 111, 111, 108] := h2
  have h3' : ¬ s = [116, 101, 120, 116] := h3
  have hsz : (bS s).size = s.length := rfl
  generalize hw : tyB (r + 1) s = R
  by_cases hl : s.length < 2
  ·have hl' : (s.length : Int) < 2 := by omega
   rw [tyB, hb, if_neg (by simp), if_pos hl] at hw
   subst hw
   refine rS6 @bo0.eq_1 h1' h2' h3' hsz hl' ?_
   refine ax0 [] ?_
   exact rT0
  have hl' : ¬ (s.length : Int) < 2 := by omega
  rcases List.eq_nil_or_concat s with rfl | ⟨l, c, rfl⟩
  ·exact absurd (by simp) hl
  rw [List.concat_eq_append] at *
  have hne : l ≠ [] := by rintro rfl; simp at hl
  rw [tyB_snoc hb hne] at hw
  have hsz' : (bS (l ++ [c])).size = l.length + 1 := by rw [hsz]; simp
  have hl2 : ¬ ((l.length : Int) + 1 < 2) := by simp at hl'; omega
  have hls : l.length + 1 < 2 ^ 40 := by simpa using hs
  have hx : (bS (l ++ [c])).extract 0 l.length = bS l := by rw [cK0]; simp
  have hgc : (l ++ [c])[l.length]? = some c := by simp
  clear hsz hs hl hl'
  refine rS8 @bo0.eq_1 h1' h2' h3' hsz' hl2 hd4' hx ?_
  refine ak0 ?_; simp; refine ah0 (cS0 (bS l) (bS [91])) (by simp) ?_
  unfold cutP
  rw [show sB (bS l) = l from rfl, show sB (bS [91]) = [91] from rfl]
  cases hp1 : [91].isPrefixOf l with
  | true =>
   have hx1 : (bS l).extract (bS [91]).size (bS l).size = bS (l.drop 1) := by
    rw [cK0, List.take_of_length_le (by rw [List.length_drop]; exact Nat.le_refl _)]; rfl
   rw [hp1, if_pos rfl] at hw
   rw [hx1]
   by_cases hc : c = 93
   ·subst hc
    refine rS2 hsz' hgc ?_
    refine ak0 ?_; simp; refine ah0 (ih (d + 1) l.tail (by omega) (by rw [List.length_tail]; omega)) (by simp) ?_
    rw [List.drop_one] at hw
    simp only [decide_true, Bool.true_and] at hw
    rw [hw]
    refine rS0 ?_
    refine ax0 [] ?_
    exact rT0
   ·have hc' : ¬ (c.toNat : Int) = 93 := fun h => hc (UInt8.toNat_inj.1 (by exact_mod_cast h))
    simp only [hc, decide_false, Bool.false_and] at hw
    subst hw
    refine rS3 hsz' hgc hc' ?_
    refine ax0 [] ?_
    exact rT0
  | false =>
  rw [hp1, if_neg (by simp)] at hw
  refine rS0 ?_
  refine aO0 (fun y : Nat => 2 - y) (fun y => [(49, vI y), (48, vI 2), (47, .arr (.l 47 0) 0 2), (0, vS (bS (l ++ [c]))), (1, vI d)])
   (fun _ => [(.l 47 0, .row 9 1 true [[vS (bS dl0)], [vS (bS ce0)]])])
   (fun y => y <= 2 /\ (0 < y -> dl0.isPrefixOf l = false) /\ (1 < y -> ce0.isPrefixOf l = false)) 0 (by simp) (Wk.subs (by simp) (by simp [dl0, ce0])) ?_
  rintro y ⟨hy, g1, g2⟩
  have : y = 0 \/ y = 1 \/ y = 2 := by omega
  rcases this with rfl | rfl | rfl
  ·refine rS0 ?_
   rw [aP0 (e := [vS (bS dl0)]) rfl]
   refine rS3 hsz' hl2 hx ?_
   refine ak0 ?_; simp; refine ah0 (cS0 (bS l) (bS dl0)) (by simp) ?_
   unfold cutP
   rw [show sB (bS l) = l from rfl, show sB (bS dl0) = dl0 from rfl]
   cases hp2 : dl0.isPrefixOf l with
   | true =>
    have hx1 : (bS l).extract (bS dl0).size (bS l).size = bS (l.drop 5) := by
     rw [cK0, List.take_of_length_le (by rw [List.length_drop]; exact Nat.le_refl _)]; rfl
    rw [hp2, if_pos rfl] at hw
    rw [hx1]
    by_cases hc : c = 125
    ·subst hc
     refine rS2 hsz' hgc ?_
     refine ak0 ?_; simp; refine ah0 (ih (d + 1) (l.drop 5) (by omega) (by simp; omega)) (by simp) ?_
     simp only [decide_true, Bool.true_and] at hw
     rw [hw]
     refine rS0 ?_
     refine ax0 [] ?_
     exact rT0
    ·have hc' : ¬ (c.toNat : Int) = 125 := fun h => hc (UInt8.toNat_inj.1 (by exact_mod_cast h))
     simp only [hc, decide_false, Bool.false_and] at hw
     subst hw
     refine rS3 hsz' hgc hc' ?_
     refine ax0 [] ?_
     exact rT0
   | false =>
    refine rS0 ?_
    refine .of 1 ⟨by omega, fun q => absurd q (by omega)⟩ (by omega) (Wk.subs (by simp) (by simp))
  ·have g1 := g1 (by omega)
   rw [g1, if_neg (by simp)] at hw
   refine rS0 ?_
   rw [aP0 (e := [vS (bS ce0)]) rfl]
   refine rS3 hsz' hl2 hx ?_
   refine ak0 ?_; simp; refine ah0 (cS0 (bS l) (bS ce0)) (by simp) ?_
   unfold cutP
   rw [show sB (bS l) = l from rfl, show sB (bS ce0) = ce0 from rfl]
   cases hp2 : ce0.isPrefixOf l with
   | true =>
    have hx1 : (bS l).extract (bS ce0).size (bS l).size = bS (l.drop 6) := by
     rw [cK0, List.take_of_length_le (by rw [List.length_drop]; exact Nat.le_refl _)]; rfl
    rw [hp2, if_pos rfl] at hw
    rw [hx1]
    by_cases hc : c = 125
    ·subst hc
     refine rS2 hsz' hgc ?_
     refine ak0 ?_; simp; refine ah0 (ih (d + 1) (l.drop 6) (by omega) (by simp; omega)) (by simp) ?_
     simp only [decide_true, Bool.true_and] at hw
     rw [hw]
     refine rS0 ?_
     refine ax0 [] ?_
     exact rT0
    ·have hc' : ¬ (c.toNat : Int) = 125 := fun h => hc (UInt8.toNat_inj.1 (by exact_mod_cast h))
     simp only [hc, decide_false, Bool.false_and] at hw
     subst hw
     refine rS3 hsz' hgc hc' ?_
     refine ax0 [] ?_
     exact rT0
   | false =>
    refine rS0 ?_
    refine .of 2 ⟨by omega, fun _ => g1⟩ (by omega) (Wk.subs (by simp) (by simp))
  ·have g1 := g1 (by omega)
   have g2 := g2 (by omega)
   rw [g1, g2] at hw
   simp only [Bool.false_eq_true, if_false] at hw
   subst hw
   refine rS0 ?_
   refine ax0 [] ?_
   exact rT0
theorem hd0 (s : Bs) (hs : s.length < 2 ^ 40) : Ret prog mP0 [vS (bS s)] (vB (rc0 s)) := by
 have h := nT0 3 1 s rfl hs
 refine cm0 pH0 (by simp) ?_
 refine rS1 @lS0.eq_1 ?_
 refine ak0 ?_; simp; refine ah0 (h) (by simp) ?_
 exact rT1 @rc0.eq_1
abbrev rk0 (a e : Int) : V := .ifc kD0 (.agg [vI a, vI e])
def LxS.after (x : LxS) : LxR (Int × Bs × Int × Nat) -> Res
 | .bad a e => .pan (rk0 a e) x.obs
 | .ok (k, t, n, j) => if 4096 <= x.out.length then .pan (rk0 x.at_ 36) x.obs else .ret (.tup []) ({ x with out := x.out ++ [⟨k, bS t, n, x.at_⟩], at_ := j } : LxS).obs'
theorem UInt8.sub48 {c : UInt8} (h : am0.contains c = true) : 48 <= c.toNat /\ c.toNat <= 57 := by
 simp [am0] at h
 rcases h with h | h | h | h | h | h | h | h | h | h <;> subst h <;> decide
def numR (s : Bs) (i : Nat) : LxR (Int × Bs × Int × Nat) :=
 if bg0 am0 s i - i > 1 /\ s[i]? = some 48 then .bad i 30 else match numV ((s.drop i).take (bg0 am0 s i - i)) 0 with
  | none => .bad i 3
  | some n => .ok (2, (s.drop i).take (bg0 am0 s i - i), n, bg0 am0 s i)
theorem runTo_all (set s : Bs) (i : Nat) : ∀ c ∈ (s.drop i).take (bg0 set s i - i), set.contains c = true := by
 unfold bg0
 rw [Nat.add_sub_cancel_left]
 intro c hc
 rw [<- List.prefix_iff_eq_take.1 (List.takeWhile_prefix _)] at hc
 generalize s.drop i = l at hc
 induction l with
 | nil => simp at hc
 | cons a l ih =>
  rw [List.takeWhile_cons] at hc
  split at hc
  ·rcases List.mem_cons.1 hc with rfl | hc
   ·assumption
   ·exact ih hc
  ·simp at hc
theorem m70 (x : LxS) (i : Nat) (hx : x.at_ = i) (hi : i < x.s.size) (hs : x.s.size < 2 ^ 40) (ho : x.out.length <= 4096) :
  J prog gL0 [.bp (.e 0) 0] x.obs (· = x.after (numR (sB x.s) i)) := by
 obtain ⟨s, a, out⟩ := x
 dsimp only at hx hi hs ho ⊢
 subst hx
 have hz : s.size = (sB s).length := rfl
 have hge := jB0 am0 (sB s) i
 have hle : bg0 am0 (sB s) i <= s.size := jC0 (by omega)
 have hall := runTo_all am0 (sB s) i
 have hget : (sB s)[i]? = some (sB s)[i] := List.getElem?_eq_getElem (by omega)
 refine at0 kp0 (by simp [LxS.obs]) ?_
 refine rS4 @fV0.eq_1 @LxS.obs.eq_1 @hpE.eq_1 @hpE.eq_2 ?_
 refine aa0 [.e 0, .e 1] ?_
 simp
 have hO := iU0 ⟨s, i, out⟩ ⟨⟨[48, 49, 50, 51, 52, 53, 54, 55, 56, 57]⟩⟩ i rfl hs
 try simp [LxS.obs, LxS.obs', Tok.ac0] at hO
 refine ab0 9 hO ?_
 rw [show sB ⟨⟨[48, 49, 50, 51, 52, 53, 54, 55, 56, 57]⟩⟩ = am0 from rfl]
 unfold numR
 generalize hp : bg0 am0 (sB s) i = p at *
 have hlen : (sB (s.extract i p)).length = p - i := by rw [dO0]; simp; omega
 by_cases h0 : 1 < p - i /\ (sB s)[i] = 48
 ·obtain ⟨h1, h2⟩ := h0
  rw [if_pos ⟨h1, by rw [hget, h2]⟩]
  refine rS0 ?_
  refine ⟨(sB s)[i], by simp [sB], fun _ => ?_, fun h => absurd (by rw [h2]; rfl) h⟩
  refine aa0 [.e 0, .e 1] ?_
  simp
  have hO := aV0 ⟨s, i, out⟩ i 30
  try simp [LxS.obs, LxS.obs', Tok.ac0] at hO
  refine af0 hO ?_
  refine rS0 ?_
  refine endP ?_
  exact rT3 @LxS.after.eq_1 @LxS.after.eq_2 @LxS.obs.eq_1
 rw [if_neg (fun h => h0 ⟨h.1, by rw [hget] at h; exact Option.some.inj h.2⟩)]
 have hll : ((sB s).drop i).take (p - i) = sB (s.extract i p) := (dO0 s i p).symm
 rw [hll] at hall ⊢
 have hsz : (s.extract i p).size = p - i := hlen
 generalize hT : s.extract i p = T at *
 refine rS0 ?_
 rw [hT]
 refine ⟨fun h1 => ⟨(sB s)[i], by simp [sB], fun h2 => ?_, fun h2 => ?_⟩, fun h1 => ?_⟩
 ·exact absurd ⟨by omega, UInt8.toNat_inj.1 (by exact_mod_cast h2)⟩ h0
 all_goals
  refine aO0 (fun y : Nat × Int => (sB T).length - y.1) (fun y => [(37, vI y.1), (36, vI (sB T).length), (35, .lst (a30 T)), (4, vI y.2), (3, vS T), (2, vI p), (0, .bp (.e 0) 0)])
   (fun _ => [(.e 0, .box [vS s, vI i, .arr (.e 1) 0 out.length]), (.e 1, .row bW0 4 true (out.map Tok.cells))])
   (fun y => y.1 <= (sB T).length /\ 0 <= y.2 /\ y.2 <= 9223372036854775807 /\ numV ((sB T).drop y.1) y.2 = numV (sB T) 0) (0, 0) ⟨by simp, by simp, by simp, rfl⟩ (Wk.subs (by simp [a30]) (by simp)) ?_
  rintro ⟨j, m⟩ ⟨hj, hm0, hm1, hv⟩
  dsimp only at hj hm0 hm1 hv
  refine rS1 @a30.eq_1 ?_
  refine ⟨fun hl => ?_, fun hl => ?_⟩
  ·have hl' : j < (sB T).length := hl
   have hc := hall _ (List.getElem_mem hl')
   obtain ⟨c0, c1⟩ := UInt8.sub48 hc
   have e : (List.map (fun b => [V.c (Value.int IntKind.u8 ↑b.toNat)]) T.data.toList)[j]? = some [vU (sB T)[j]] := by
    rw [List.getElem?_map, show T.data.toList = sB T from rfl, List.getElem?_eq_getElem hl']; rfl
   rw [aP0 e]
   rw [List.drop_eq_getElem_cons hl', numV] at hv
   generalize (sB T)[j] = c at *
   have w1 : IntKind.u8.wrap ((c.toNat : Int) - 48) = c.toNat - 48 := by
    simp [IntKind.wrap, IntKind.signed, IntKind.bits]; omega
   have w2 : IntKind.i64.wrap ((c.toNat : Int) - 48) = c.toNat - 48 := by
    simp [IntKind.wrap, IntKind.signed, IntKind.bits]; omega
   have w3 : IntKind.i64.wrap (9223372036854775807 - ((c.toNat : Int) - 48)) = 9223372036854775807 - ((c.toNat : Int) - 48) := by
    simp [IntKind.wrap, IntKind.signed, IntKind.bits]; omega
   have q1 : (9223372036854775807 - ((c.toNat : Int) - 48)).tdiv 10 = (9223372036854775807 - ((c.toNat : Int) - 48)) / 10 := Int.tdiv_eq_ediv_of_nonneg (by omega)
   rw [q1] at hv
   refine rS4 w1 w2 w3 q1 ?_
   refine ⟨fun hb => ?_, fun hb => ?_⟩
   ·rw [if_pos (by omega)] at hv
    rw [<- hv]
    refine aa0 [.e 0, .e 1] ?_
    simp
    have hO := aV0 ⟨s, i, out⟩ i 3
    try simp [LxS.obs, LxS.obs', Tok.ac0] at hO
    refine af0 hO ?_
    refine rS0 ?_
    refine endP ?_
    exact rT3 @LxS.after.eq_1 @LxS.after.eq_2 @LxS.obs.eq_1
   ·rw [if_neg (by omega)] at hv
    refine .of (j + 1, m * 10 + ((c.toNat : Int) - 48)) ⟨by dsimp only; omega, by dsimp only; omega, by dsimp only; omega, hv⟩ (by dsimp only; omega) (Wk.subs (by simp [a30]) (by simp))
  ·rw [List.drop_of_length_le (by show T.size <= j; omega), numV] at hv
   rw [<- hv]
   by_cases hfull : 4096 <= out.length
   ·refine aa0 [.e 0, .e 1] ?_
    simp
    have hO := dE0 ⟨s, i, out⟩ ⟨2, T, m, 0⟩ p hfull (by dsimp only; omega)
    try simp [LxS.obs, LxS.obs', Tok.ac0] at hO
    refine af0 hO ?_
    refine rS0 ?_
    refine endP ?_
    exact rT4 @LxS.after.eq_1 @LxS.after.eq_2 @LxS.obs.eq_1 hfull
   ·refine aa0 [.e 0, .e 1] ?_
    simp
    have hO := eJ0 ⟨s, i, out⟩ ⟨2, T, m, 0⟩ p (by dsimp only; omega)
    try simp [LxS.obs, LxS.obs', Tok.ac0] at hO
    refine ab0 65 hO ?_
    refine rS0 ?_
    refine bX0 [.l 65 0] ?_
    exact rT5 @LxS.after.eq_1 @LxS.after.eq_2 @LxS.obs'.eq_1 hfull @Tok.ac0
end Go.Am
end

section
namespace Go.Proofs
open Go.Shelf
def Tryz.m60 : Go.Shelf.Ren := ⟨fun | 240 => 69 | 276 => 85 | n => n, fun | 70 => 64 | 72 => 67 | 37 => 65 | 164 => 125 | n => n, fun | n => n⟩
theorem Tryz.lays240 : Go.Proofs.Lays.n240 Tryz.prog Tryz.m60 := {
 mixed := by kernel_rfl
 f240 := Tryz.func69.trans (congrArg some (by kernel_rfl))
 f276 := Tryz.func85.trans (congrArg some (by kernel_rfl))
 t0 := Tryz.underlying0
 a0 := Tryz.isAgg0
 z0 := Tryz.sizeOf0
 v0 := Tryz.zeroValue0
 t4 := Tryz.underlying4
 a4 := Tryz.isAgg4
 z4 := Tryz.sizeOf4
 v4 := Tryz.zeroValue4
 t9 := Tryz.underlying9
 a9 := Tryz.isAgg9
 z9 := Tryz.sizeOf9
 v9 := Tryz.zeroValue9
 t20 := Tryz.underlying20
 a20 := Tryz.isAgg20
 z20 := Tryz.sizeOf20
 v20 := Tryz.zeroValue20
 t70 := Tryz.underlying64
 a70 := Tryz.isAgg64
 z70 := Tryz.sizeOf64
 v70 := Tryz.zeroValue64
 t72 := Tryz.underlying67
 a72 := Tryz.isAgg67
 z72 := Tryz.sizeOf67
 v72 := Tryz.zeroValue67
 t164 := Tryz.underlying125
 a164 := Tryz.isAgg125
 z164 := Tryz.sizeOf125
 v164 := Tryz.zeroValue125 }
theorem Tryz.bx72 : Builder.X72 Tryz.prog Tryz.m60 := ⟨by kernel_rfl, by kernel_rfl⟩
variable {P : Program} {ρ : Ren}
set_option maxHeartbeats 1000000 in
set_option maxRecDepth 100000 in
theorem mK0 (L : Lays.n240 P ρ) (X : Builder.X72 P ρ) (b e cells : Nat) (w : World) (h0 : w.cell? ⟨b, 0, none⟩ = some (.pointer none)) (hsh : w.shape? b = some (e, cells)) (hc : 0 < cells)
  (hlies : liesAt P P.depth e (cells / P.cellsOf e) 0 (ρ.t 72) 1 = true) (hfz : w.frozen? ⟨b, 0, none⟩ = false) :
  Calls P (ρ.f 240) #[.pointer (some ⟨b, 0, none⟩)] w fun e w' => e = .returned (.tuple #[]) /\ w' = w.setCell ⟨b, 0, none⟩ (.pointer (some ⟨b, 0, none⟩)) := by
 obtain ⟨j, hj, hjs⟩ := Option.map_eq_some_iff.1 X.sizeBuilder
 have mixed := L.mixed
 have t72 := L.t72; have a72 := L.a72; have z72 := L.z72; have v72 := L.v72; have u72 := run_underlying L.t72
 have t70 := L.t70; have a70 := L.a70; have z70 := L.z70; have v70 := L.v70; have u70 := run_underlying L.t70
 have t9 := L.t9; have a9 := L.a9; have z9 := L.z9; have v9 := L.v9; have u9 := run_underlying L.t9
 have t4 := L.t4; have a4 := L.a4; have z4 := L.z4; have v4 := L.v4; have u4 := run_underlying L.t4
 have t164 := L.t164; have a164 := L.a164; have z164 := L.z164; have v164 := L.v164; have u164 := run_underlying L.t164
 go_enter L.f240, Body.n240_ntmps ρ
 go_wp2
 rw [Lib.run_to_unsafe w ⟨b, 0, none⟩ L.t70 L.t164 hj (by rw [hjs]; decide) hsh hc]
 simp only [Result.andThen]
 rw [Oper.upon_value]
 go_wp2
 rw [run_callFunc_extern L.f276 (by kernel_rfl) (by kernel_rfl) (by kernel_rfl) (e := Extern.AbiNoEscape.same) (by kernel_rfl)]
 rw [Lib.run_noEscape]
 simp only [Result.andThen]
 rw [Oper.upon_value]
 go_wp2
 rw [Lib.run_from_unsafe w ⟨b, 0, none⟩ L.t164 L.t70 hj hsh hlies]
 simp only [Result.andThen]
 rw [Oper.upon_value]
 go_wp2
 go_end0
 exact ⟨rfl, rfl⟩
end Go.Proofs
end

section
namespace Go.Am
set_option maxRecDepth 100000
theorem hpE_set {o : Ob} : ∀ {l : List Ob} {k : Nat}, 0 < k -> Hp.set (.e 0) o (hpE k l) = hpE k l
 | [], k, h => rfl
 | x :: l, k, h => by
  have := hpE_set (o := o) (l := l) (k := k + 1) (by omega)
  simp only [Hp.set] at this ⊢
  simp only [hpE, List.map_cons, this]
  rw [if_neg (by simp; omega)]
theorem hpE_set0 {o : Ob} {l : List Ob} : Hp.set (.e 0) o (hpE 0 (o :: l)) = hpE 0 (o :: l) := by
 have := hpE_set (o := o) (l := l) (k := 1) (by omega)
 simp only [Hp.set] at this ⊢
 simp only [hpE, List.map_cons, if_true, this]
theorem gZ0 {T : Nat} {x : V} {more : List Ob} (hT : liesAt prog prog.depth T (2 / prog.cellsOf T) 0 67 1 = true) :
  J prog bU0 [.bp (.e 0) 0] (.box [.self (.e 0) T, x] :: more) (· = .ret (.tup []) (.box [.self (.e 0) T, x] :: more)) := by
 intro H μ vs w hv hW
 have r0 := hv.2 0 _ rfl
 have hvs : vs = #[vs.getD 0 undef] := by
  apply Array.ext
  ·have := hv.1; simpa using this
  ·intro i h1 h2
   have h3 : i = 0 := by simp at h2; omega
   have hs : vs.size = 1 := by have := hv.1; simpa using this
   subst h3; simp [Array.getD, hs]
 rw [hvs]
 generalize vs.getD 0 undef = p at r0
 cases r0 with
 | bp _ _ blk hb =>
 have hl0 : (hpE 0 (.box [.self (.e 0) T, x] :: more)).lookup (.e 0) = some (.box [.self (.e 0) T, x]) := rfl
 obtain ⟨blk', vals, ty, k1, k2, k3, ⟨k4, k6⟩, k5⟩ := hW.ob _ _ hl0
 rw [hb] at k1; injection k1 with k1; subst k1
 obtain ⟨c0, q1, q2⟩ := k5 0 _ rfl
 cases q2 with
 | self _ _ a blk2 h2 ht ha =>
 rw [hb] at h2; injection h2 with h2; subst h2
 have hty : ty = T := by rw [k6, ht]
 subst hty
 have hcell : w.cell? ⟨blk.b, 0, none⟩ = some (.pointer a) := by simpa [World.cell?, k2] using q1
 have hshape : w.shape? blk.b = some (ty, 2) := by simp [World.shape?, k2, k3]
 have hfroz : w.frozen? ⟨blk.b, 0, none⟩ = false := by simp [World.frozen?, k2]
 have hgo : (callFunc bU0 #[.pointer (some ⟨blk.b, 0, none⟩)]).run prog w = .ok (.enter bU0 #[.pointer (some ⟨blk.b, 0, none⟩)]) w := by
  have hf := Go.Proofs.Tryz.func69
  obtain ⟨c, hc⟩ : ∃ c, Go.Proofs.Tryz.f69.body = some c := ⟨_, rfl⟩
  have hn : (Go.Proofs.Tryz.f69.name == "runtime.NumGoroutine") = false := by kernel_rfl
  have hn' : ¬ Go.Proofs.Tryz.f69.name = "runtime.NumGoroutine" := by simpa using hn
  simp [callFunc, hf, hn', hc]
 unfold dF0
 rw [hgo]
 rcases ha with rfl | rfl
 ·refine Calls.mono (Go.Proofs.mK0 Go.Proofs.Tryz.lays240 Go.Proofs.Tryz.bx72 blk.b ty 2 w hcell hshape (by omega) hT hfroz) ?_
  rintro e w' ⟨rfl, rfl⟩
  rw [setCell_eq_setRow w blk.b 0 vals ty (0, 0) _ k2]
  have hO : ObOk H μ (w.setRow blk.b (vals.setIfInBounds 0 (.pointer (some ⟨blk.b, 0, none⟩)))) (.e 0) (.box [.self (.e 0) ty, x]) := by
   refine ⟨blk, _, ty, hb, setRow_heap w blk.b vals _ ty _ k2, by simpa using k3, ⟨k4, k6⟩, fun j v hj => ?_⟩
   cases j with
   | zero =>
    simp at hj; subst hj
    refine ⟨.pointer (some ⟨blk.b, 0, none⟩), ?_, .self _ _ _ blk hb ht (.inr rfl)⟩
    have : 0 < vals.size := by rw [k3]; simp
    simp [this]
   | succ j =>
    obtain ⟨y, g1, g2⟩ := k5 (j + 1) v hj
    exact ⟨y, by simpa using g1, g2⟩
  obtain ⟨g1, g2⟩ := hW.write hl0 rfl hb k2 rfl hO
  rw [hpE_set0] at g1 g2
  exact ⟨_, H, μ, rfl, ⟨_, rfl, .tup [] #[] rfl (fun j v h => by simp at h)⟩, g2.toNj, g1, Nat.le_refl _, fun _ _ _ _ _ => rfl⟩
 ·refine Calls.mono (Go.Proofs.Any.Builder_copyCheck_used Go.Proofs.Tryz.lays240 Go.Proofs.Tryz.bx72 blk.b _ hcell) ?_
  rintro e w' ⟨rfl, rfl⟩
  exact ⟨_, H, μ, rfl, ⟨_, rfl, .tup [] #[] rfl (fun j v h => by simp at h)⟩, (Nx.refl H μ _ _).toNj, hW, Nat.le_refl _, fun _ _ _ _ _ => rfl⟩
end Go.Am
end

section
namespace Go.Am
set_option maxRecDepth 100000
attribute [local irreducible] vc vcIs vcI vcOp vcD vcDp vcDR vcT vcAR bV0 aY0 panD neG ne pv J bH0 bM0 bY0 bd0 evK evsK nthK objK boxK rowK bz0 intK strK aggK fnK ifcK ay0 az0 ldK ldaK iaK srcK stK appK appD b00 pvK bC0 aW0 bL0 bs0 slAV bG0
theorem br0 : ofConst .nilIface = .c .nilIface := _root_.id rfl
def ao0 (b : UInt8) : List V := [vU b]
def ae0 (T : Nat) (bs : List UInt8) : List Ob := [.box [.self (.e 0) T, .arr (.e 1) 0 bs.length], .row 5 1 true (bs.map ao0)]
def ad0 (T : Nat) (bs : List UInt8) : List Ob := [.box [.self (.e 0) T, .arr (.e 2) 0 bs.length], .gone, .row 5 1 true (bs.map ao0)]
theorem il0 (T : Nat) (bs : List UInt8) : J prog c20 [.bp (.e 0) 0] (ae0 T bs) (· = .ret (vI bs.length) (ae0 T bs)) := by
 refine at0 eB0 (by simp [ae0]) ?_
 refine rS4 @cQ0.eq_1 @ae0.eq_1 @hpE.eq_1 @hpE.eq_2 ?_
 refine ax0 [] ?_
 exact rT0
theorem cO0 (T : Nat) (bs : List UInt8) (c : UInt8) (hT : liesAt prog prog.depth T (2 / prog.cellsOf T) 0 67 1 = true) (hl : bs.length < 2 ^ 40) :
  J prog bT0 [.bp (.e 0) 0, vU c] (ae0 T bs) (· = .ret (.c .nilIface) (ad0 T (bs ++ [c]))) := by
 refine at0 cW0 (by simp [ae0]) ?_
 refine rS4 @bI0.eq_1 @ae0.eq_1 @hpE.eq_1 @hpE.eq_2 ?_
 refine aa0 [.e 0, .e 1] ?_
 simp
 have hO := gZ0 (T := T) (x := .arr (.e 1) 0 bs.length) (more := [.row 5 1 true (bs.map ao0)]) hT
 try simp [ae0, ad0] at hO
 refine ab0 6 hO ?_
 refine rS1 @br0 ?_
 refine ax0 [.l 14 0] ?_
 exact rT3 @ad0.eq_1 @ao0.eq_1 @br0
def aB0 (T : Nat) : List Ob := [.box [.self (.e 0) T, .nil]]
theorem my0 (T : Nat) : J prog c20 [.bp (.e 0) 0] (aB0 T) (· = .ret (vI 0) (aB0 T)) := by
 refine at0 eB0 (by simp [aB0]) ?_
 refine rS4 @cQ0.eq_1 @aB0.eq_1 @hpE.eq_1 @hpE.eq_2 ?_
 refine ax0 [] ?_
 exact rT0
theorem cY0 (T : Nat) (c : UInt8) (hT : liesAt prog prog.depth T (2 / prog.cellsOf T) 0 67 1 = true) :
  J prog bT0 [.bp (.e 0) 0, vU c] (aB0 T) (· = .ret (.c .nilIface) (ae0 T [c])) := by
 refine at0 cW0 (by simp [aB0]) ?_
 refine rS4 @bI0.eq_1 @aB0.eq_1 @hpE.eq_1 @hpE.eq_2 ?_
 refine aa0 [.e 0] ?_
 simp
 have hO := gZ0 (T := T) (x := .nil) (more := []) hT
 try simp [ae0, ad0] at hO
 refine ab0 6 hO ?_
 refine rS1 @br0 ?_
 refine ax0 [.l 14 0] ?_
 exact rT3 @ae0.eq_1 @ao0.eq_1 @br0
end Go.Am
end

section
namespace Go.Proofs
open Go.Shelf
def Tryz.m50 : Go.Shelf.Ren := ⟨fun | 169 => 29 | n => n, fun | 70 => 64 | 9 => 9 | 0 => 0 | 72 => 67 | 37 => 65 | 127 => 108 | 3 => 3 | 5 => 5 | n => n, fun | n => n⟩
theorem Tryz.lays169 : Go.Proofs.Lays.n169 Tryz.prog Tryz.m50 := {
 mixed := by kernel_rfl
 f169 := Tryz.func29.trans (congrArg some (by kernel_rfl))
 t0 := Tryz.underlying0
 a0 := Tryz.isAgg0
 z0 := Tryz.sizeOf0
 v0 := Tryz.zeroValue0
 t3 := Tryz.underlying3
 a3 := Tryz.isAgg3
 z3 := Tryz.sizeOf3
 v3 := Tryz.zeroValue3
 t9 := Tryz.underlying9
 a9 := Tryz.isAgg9
 z9 := Tryz.sizeOf9
 v9 := Tryz.zeroValue9
 t37 := Tryz.underlying65
 a37 := Tryz.isAgg65
 z37 := Tryz.sizeOf65
 v37 := Tryz.zeroValue65
 t70 := Tryz.underlying64
 a70 := Tryz.isAgg64
 z70 := Tryz.sizeOf64
 v70 := Tryz.zeroValue64
 t72 := Tryz.underlying67
 a72 := Tryz.isAgg67
 z72 := Tryz.sizeOf67
 v72 := Tryz.zeroValue67
 t127 := Tryz.underlying108
 a127 := Tryz.isAgg108
 z127 := Tryz.sizeOf108
 v127 := Tryz.zeroValue108 }
theorem Tryz.bx169 : Builder.Extra Tryz.prog Tryz.m50 := ⟨⟨by kernel_rfl, by kernel_rfl⟩, Tryz.underlying5, Tryz.isAgg5, Tryz.sizeOf5, Tryz.zeroValue5, by kernel_rfl, by kernel_rfl, by kernel_rfl, by decide⟩
variable {P : Program} {ρ : Ren}
set_option maxHeartbeats 1000000 in
set_option maxRecDepth 100000 in
theorem oz0 (L : Lays.n169 P ρ) (X : Builder.Extra P ρ) (T b g cap : Nat) (p : Value) (l : List UInt8) (cur : Array Value) (w : World) (h0 : l ≠ []) (hbk : w.heap[b]? = some (.cells #[p, .slice (some ⟨g, 0, none⟩) l.length cap] T (0, 0)))
  (hg : w.heap[g]? = some (.cells cur (ρ.t 5) (0, 0))) (hnc : l.length <= cap) (hcm : cap <= maxLen) (hcs : cur.size = cap) (hcell : ∀ (j : Nat) (x : UInt8), l[j]? = some x -> w.cell? ⟨g, j, none⟩ = some (.int .u8 x.toNat)) :
  Calls P (ρ.f 169) #[.pointer (some ⟨b, 0, none⟩)] w fun e w' => e = .returned (.string ⟨l.toArray⟩) /\ w' = w.drew.freeze ⟨g, 0, none⟩ l.length := by
 have hl0 : l.length ≠ 0 := by simpa using h0
 have c1 : w.drew.cell? ⟨b, 1, none⟩ = some (.slice (some ⟨g, 0, none⟩) l.length cap) := by
  have : w.drew.heap[b]? = some (.cells #[p, .slice (some ⟨g, 0, none⟩) l.length cap] T (0, 0)) := hbk
  rw [Lib.cell_of_heap this]; rfl
 have hSD : (Builtin.unsafeSliceData_ #[(ρ.t 37)] (ρ.t 127) #[.slice (some ⟨g, 0, none⟩) l.length cap]).run P w.drew = .ok (.pointer (some ⟨g, 0, none⟩)) w.drew :=
  Lib.run_unsafeSliceData_row _ _ _ _ _ _ (by omega)
 have hUS : (Builtin.unsafeString_ #[(ρ.t 127), (ρ.t 3)] (ρ.t 9) #[.pointer (some ⟨g, 0, none⟩), .int .i64 l.length]).run P w.drew = .ok (.string ⟨l.toArray⟩) (w.drew.freeze ⟨g, 0, none⟩ l.length) := by
  refine Lib.run_unsafeString_row w.drew (ρ.t 127) (ρ.t 3) (ρ.t 9) (ρ.t 5) L.t127 X.cellsByte g cur.size (by have hg' : w.drew.heap[g]? = some (.cells cur (ρ.t 5) (0, 0)) := hg; simp [World.shape?, hg']) l h0 (by omega) (by unfold maxLen at hcm; omega) ?_
  intro j x hx
  have h1 := hcell j x hx
  have h2 : Addr.add ⟨g, 0, none⟩ j = ⟨g, j, none⟩ := by simp [Addr.add]; omega
  rw [h2]; exact h1
 have mixed := L.mixed
 have t72 := L.t72; have a72 := L.a72; have z72 := L.z72; have v72 := L.v72; have u72 := run_underlying L.t72
 have t70 := L.t70; have a70 := L.a70; have z70 := L.z70; have v70 := L.v70; have u70 := run_underlying L.t70
 have t37 := L.t37; have a37 := L.a37; have z37 := L.z37; have v37 := L.v37; have u37 := run_underlying L.t37
 have t127 := L.t127; have a127 := L.a127; have z127 := L.z127; have v127 := L.v127; have u127 := run_underlying L.t127
 have t3 := L.t3; have a3 := L.a3; have z3 := L.z3; have v3 := L.v3; have u3 := run_underlying L.t3
 have t9 := L.t9; have a9 := L.a9; have z9 := L.z9; have v9 := L.v9; have u9 := run_underlying L.t9
 have t5 := X.t5; have a5 := X.a5; have z5 := X.z5; have v5 := X.v5; have u5 := run_underlying X.t5
 go_enter L.f169, Body.n169_ntmps ρ
 go_wp2
 go_region_o
 all_goals (go_wp2; go_ret; exact ⟨rfl, rfl⟩)
set_option maxHeartbeats 2000000 in
set_option maxRecDepth 100000 in
theorem lm0 (L : Lays.n169 P ρ) (X : Builder.Extra P ρ) (T b : Nat) (p : Value) (w : World) (hbk : w.heap[b]? = some (.cells #[p, .slice none 0 0] T (0, 0))) :
  Calls P (ρ.f 169) #[.pointer (some ⟨b, 0, none⟩)] w fun e w' => e = .returned (.string ⟨#[]⟩) /\ w' = w.drew := by
 have hUS := Any.unsafeString_none L X
 have c1 : w.drew.cell? ⟨b, 1, none⟩ = some (.slice none 0 0) := by
  have : w.drew.heap[b]? = some (.cells #[p, .slice none 0 0] T (0, 0)) := hbk
  rw [Lib.cell_of_heap this]; rfl
 have hSD : (Builtin.unsafeSliceData_ #[(ρ.t 37)] (ρ.t 127) #[.slice none 0 0]).run P w.drew = .ok (.pointer none) w.drew := rfl
 have mixed := L.mixed
 have t72 := L.t72; have a72 := L.a72; have z72 := L.z72; have v72 := L.v72; have u72 := run_underlying L.t72
 have t70 := L.t70; have a70 := L.a70; have z70 := L.z70; have v70 := L.v70; have u70 := run_underlying L.t70
 have t37 := L.t37; have a37 := L.a37; have z37 := L.z37; have v37 := L.v37; have u37 := run_underlying L.t37
 have t127 := L.t127; have a127 := L.a127; have z127 := L.z127; have v127 := L.v127; have u127 := run_underlying L.t127
 have t3 := L.t3; have a3 := L.a3; have z3 := L.z3; have v3 := L.v3; have u3 := run_underlying L.t3
 have t9 := L.t9; have a9 := L.a9; have z9 := L.z9; have v9 := L.v9; have u9 := run_underlying L.t9
 have t5 := X.t5; have a5 := X.a5; have z5 := X.z5; have v5 := X.v5; have u5 := run_underlying X.t5
 go_enter L.f169, Body.n169_ntmps ρ
 go_wp2
 go_region_o
 all_goals (go_wp2; go_ret; exact ⟨rfl, rfl⟩)
end Go.Proofs
end

section
namespace Go.Am
set_option maxRecDepth 100000
theorem one_arg {H : Imm} {μ : Mu} {v : V} {vs : Array Value} (hv : RL H μ [v] vs) : vs = #[vs.getD 0 undef] := by
 apply Array.ext
 ·have := hv.1; simpa using this
 ·intro i h1 h2
  have h3 : i = 0 := by simp at h2; omega
  have hs : vs.size = 1 := by have := hv.1; simpa using this
  subst h3; simp [Array.getD, hs]
theorem mC0 (p : Value) (w : World) : (callFunc bv0 #[p]).run prog w = .ok (.enter bv0 #[p]) w := by
 have hf := Go.Proofs.Tryz.func29
 obtain ⟨c, hc⟩ : ∃ c, Go.Proofs.Tryz.f29.body = some c := ⟨_, rfl⟩
 have hn : (Go.Proofs.Tryz.f29.name == "runtime.NumGoroutine") = false := by kernel_rfl
 have hn' : ¬ Go.Proofs.Tryz.f29.name = "runtime.NumGoroutine" := by simpa using hn
 simp [callFunc, hf, hn', hc]
theorem vals2 {vals : Array Value} {c0 c1 : Value} (hs : vals.size = 2) (h0 : vals[0 + 0]? = some c0) (h1 : vals[0 + 1]? = some c1) : vals = #[c0, c1] := by
 apply Array.ext_getElem?
 intro i
 match i with
 | 0 => simpa using h0
 | 1 => simpa using h1
 | i + 2 => simp [hs]
theorem Builder_String_nil (T : Nat) : J prog bv0 [.bp (.e 0) 0] (aB0 T) (· = .ret (vS (bS [])) (aB0 T)) := by
 intro H μ vs w hv hW
 have r0 := hv.2 0 _ rfl
 rw [one_arg hv]
 generalize vs.getD 0 undef = p at r0
 cases r0 with
 | bp _ _ blk hb =>
 have hl0 : (hpE 0 (aB0 T)).lookup (.e 0) = some (.box [.self (.e 0) T, .nil]) := rfl
 obtain ⟨blk', vals, ty, k1, k2, k3, k4, k5⟩ := hW.ob _ _ hl0
 rw [hb] at k1; injection k1 with k1; subst k1
 obtain ⟨c0, q1, q2⟩ := k5 0 _ rfl
 obtain ⟨c1, p1, p2⟩ := k5 1 _ rfl
 cases p2
 rw [vals2 k3 q1 p1] at k2
 unfold dF0
 rw [mC0]
 refine Calls.mono (Go.Proofs.lm0 Go.Proofs.Tryz.lays169 Go.Proofs.Tryz.bx169 ty blk.b c0 w k2) ?_
 rintro e w' ⟨rfl, rfl⟩
 exact ⟨_, H, μ, rfl, ⟨_, rfl, .c _⟩, (Nx.drew H μ _ w).toNj, hW.drew, Nat.le_refl _, fun _ _ _ _ _ => rfl⟩
def aM0 (T : Nat) : List Ob := [.box [.self (.e 0) T, .any], .gone]
theorem fQ0 (T : Nat) (bs : List UInt8) (h0 : bs ≠ []) : J prog bv0 [.bp (.e 0) 0] (ae0 T bs) (· = .ret (vS (bS bs)) (aM0 T)) := by
 intro H μ vs w hv hW
 have r0 := hv.2 0 _ rfl
 rw [one_arg hv]
 generalize vs.getD 0 undef = p at r0
 cases r0 with
 | bp _ _ blk hb =>
 have hl0 : (hpE 0 (ae0 T bs)).lookup (.e 0) = some (.box [.self (.e 0) T, .arr (.e 1) 0 bs.length]) := rfl
 have hl1 : (hpE 0 (ae0 T bs)).lookup (.e 1) = some (.row 5 1 true (bs.map ao0)) := rfl
 obtain ⟨blk', vals, ty, k1, k2, k3, k4, k5⟩ := hW.ob _ _ hl0
 rw [hb] at k1; injection k1 with k1; subst k1
 obtain ⟨c0, q1, q2⟩ := k5 0 _ rfl
 obtain ⟨c1, p1, p2⟩ := k5 1 _ rfl
 have hl : bs.length ≠ 0 := by simpa using h0
 cases p2 with
 | arr _ _ _ a cap hc ha =>
 obtain ⟨bg, g1, g2, g3⟩ := ha.resolve_left (by omega)
 subst g2
 rw [vals2 k3 q1 p1] at k2
 rcases hW.ob _ _ hl1 with ⟨z, _⟩ | ⟨bg', cur, m1, ⟨m2, m3, m4⟩, m5, m6, m7, m8, m9, m10, m11⟩
 ·exact absurd (by simpa using z) h0
 rw [g1] at m1; injection m1 with m1; subst m1
 have hne : blk.b ≠ bg.b := fun e => by
  have := hW.inj _ _ _ _ blk bg hl0 rfl hl1 rfl hb g1 e
  cases this
 unfold dF0
 rw [mC0]
 refine Calls.mono (Go.Proofs.oz0 Go.Proofs.Tryz.lays169 Go.Proofs.Tryz.bx169 ty blk.b bg.b cap c0 bs cur w h0 (by simpa using k2) m5 hc (by omega) (by rw [m6]; omega) (fun j x hx => ?_)) ?_
 ·obtain ⟨y, y1, y2⟩ := m11 j (ao0 x) (by rw [List.getElem?_map, hx]; rfl) 0 (vU x) rfl
  cases y2
  simpa [World.cell?, m5] using y1
 rintro e w' ⟨rfl, rfl⟩
 have hoth : ∀ b, b ≠ bg.b -> (w.drew.freeze ⟨bg.b, 0, none⟩ bs.length).heap[b]? = w.heap[b]? := by
  intro b h
  simp [World.freeze, World.drew, -World.drew_eq, h0, Array.getElem?_modify, Ne.symm h]
 have hlk : ∀ (i : Id) (o : Ob), (hpE 0 (aM0 T)).lookup i = some o -> (i = .e 0 /\ o = .box [.self (.e 0) T, .any]) \/ o = .gone := by
  intro i o h
  simp only [hpE, aM0, List.lookup_cons] at h
  split at h
  ·rename_i hh; exact .inl ⟨by simpa using hh, by injection h with h; exact h.symm⟩
  ·split at h
   ·injection h with h; exact .inr h.symm
   ·cases h
 refine ⟨_, H, μ, rfl, ⟨_, rfl, .c _⟩, ⟨Imm.le_refl H, by simp [World.freeze, World.drew, -World.drew_eq, h0], by simp [World.freeze, World.drew, -World.drew_eq, h0], by simp [World.freeze, World.drew, -World.drew_eq, h0], ?_, fun b hb' hno => hoth b fun e => hno ⟨.e 1, _, bg, hl1, rfl, g1, e.symm⟩, fun b ho hb' => ?_, fr0⟩, ⟨fun i o h => ?_, fun i j oi oj bi bj hi hio hj hjo _ _ _ => ?_, fun b cs h => ?_, hW.glo⟩, Nat.le_refl _, fun _ _ _ _ _ => rfl⟩
 ·simp [World.freeze, World.drew, -World.drew_eq, h0]
 ·obtain ⟨i, o, bq, o1, o2, o3, o4⟩ := ho
  rcases hlk i o o1 with ⟨rfl, rfl⟩ | rfl
  ·exact ⟨.e 0, _, bq, hl0, rfl, o3, o4⟩
  ·cases o2
 ·rcases hlk i o h with ⟨rfl, rfl⟩ | rfl
  ·refine ⟨blk, _, ty, hb, by rw [hoth _ hne]; exact k2, rfl, k4, fun j v hj => ?_⟩
   match j with
   | 0 => simp at hj; subst hj; exact ⟨c0, rfl, q2⟩
   | 1 => simp at hj; subst hj; exact ⟨_, rfl, .any _⟩
   | j + 2 => simp at hj
  ·trivial
 ·rcases hlk i oi hi with ⟨rfl, rfl⟩ | rfl
  ·rcases hlk j oj hj with ⟨rfl, rfl⟩ | rfl
   ·rfl
   ·cases hjo
  ·cases hio
 ·obtain ⟨ty', fz, hh⟩ := hW.imm b cs h
  exact ⟨ty', fz, by rw [hoth b fun e => by subst e; rw [m9 rfl] at h; cases h]; exact hh⟩
end Go.Am
end

section
namespace Go.Am
set_option maxRecDepth 100000
attribute [local irreducible] vc vcIs vcI vcOp vcD vcDp vcDR vcT vcAR bV0 aY0 panD neG ne pv J bH0 bM0 bY0 bd0 evK evsK nthK objK boxK rowK bz0 intK strK aggK fnK ifcK ay0 az0 ldK ldaK iaK srcK stK appK appD b00 pvK bC0 aW0 bL0 bs0 slAV bG0
variable {ts : List Tok} {n : Nat}
theorem eo0 (hn : n < ts.length) (hl : ts.length < 2 ^ 40) : J prog cx0 [.bp (.e 0) 0, vI 1] (pObs ts n) (· = pAns ts Tok.V (dA0 ts n)) := by
 rw [<- pNext_1]; exact ja0 hn hl 1
theorem nQ0 (hn : n < ts.length) (hl : ts.length < 2 ^ 40) : J prog cx0 [.bp (.e 0) 0, vI 2] (pObs ts n) (· = pAns ts Tok.V (pInt ts n)) := by
 rw [<- pNext_2]; exact ja0 hn hl 2
theorem jb0 (hE : TEnd ts) (hl : ts.length < 2 ^ 40) (hn : n < ts.length) : J prog gi0 [.bp (.e 0) 0] (pObs ts n) (· = pAns ts Slo.V (ky0 ts n)) := by
 have hw : ky0 ts n = ky0 ts n := rfl
 conv at hw => rhs; rw [ky0]
 refine at0 jQ0 (by simp [pObs]) ?_
 refine rS4 @fu0.eq_1 @pObs.eq_1 @hpE.eq_1 @hpE.eq_2 ?_
 have hJ := eo0 hn hl
 rcases hR5 : dA0 ts n with ⟨t,n1⟩ | ⟨aa, ae⟩
 rotate_left
 ·rw [hR5] at hJ hw
  try simp only [LxR.bind] at hw
  simp only [pAns, ar0] at hJ
  refine aa0 [.e 0] ?_
  simp
  have hO := hJ
  try simp [pObs] at hO
  refine af0 hO ?_
  refine rS0 ?_
  refine endP ?_
  exact rT6 hw @pAns.eq_1 @pAns.eq_2 @ar0.eq_1 @ar0.eq_2 @pObs.eq_1
 rw [hR5] at hJ hw
 try simp only [LxR.bind] at hw
 simp only [pAns, ar0] at hJ
 refine aa0 [.e 0] ?_
 simp
 have hO := hJ
 try simp [pObs] at hO
 refine ab0 5 hO ?_
 have q1 := a10 hE hn hR5
 refine rS0 ?_
 have hJ := aq0 q1.2 hl [58]
 rcases hR7 : bi0 ts n1 [58] with n2 | ⟨aa, ae⟩
 rotate_left
 ·rw [hR7] at hJ hw
  try simp only [LxR.bind] at hw
  simp only [pAns, ar0] at hJ
  refine aa0 [.e 0] ?_
  simp
  have hO := hJ
  try simp [pObs] at hO
  refine af0 hO ?_
  refine rS0 ?_
  refine endP ?_
  exact rT6 hw @pAns.eq_1 @pAns.eq_2 @ar0.eq_1 @ar0.eq_2 @pObs.eq_1
 rw [hR7] at hJ hw
 try simp only [LxR.bind] at hw
 simp only [pAns, ar0] at hJ
 refine aa0 [.e 0] ?_
 simp
 have hO := hJ
 try simp [pObs] at hO
 refine ab0 7 hO ?_
 have q2 := al0 hE q1.2 hR7
 refine rS0 ?_
 have hJ := c90 hE hl 4 1 n2 rfl q2.2
 rcases hR11 : fL0 ts 4 n2 with ⟨k,n3⟩ | ⟨aa, ae⟩
 rotate_left
 ·rw [hR11] at hJ hw
  try simp only [LxR.bind] at hw
  simp only [pAns, ar0] at hJ
  refine bl0 [.e 0] ?_
  simp
  have hO := hJ
  try simp [pObs] at hO
  refine cL0 hO ?_
  refine rS0 ?_
  refine endP ?_
  exact rT6 hw @pAns.eq_1 @pAns.eq_2 @ar0.eq_1 @ar0.eq_2 @pObs.eq_1
 rw [hR11] at hJ hw
 try simp only [LxR.bind] at hw
 simp only [pAns, ar0] at hJ
 refine bl0 [.e 0] ?_
 simp
 have hO := hJ
 try simp [pObs] at hO
 refine cE0 11 hO ?_
 refine rS0 ?_
 refine ax0 [] ?_
 exact rT5 hw @pAns.eq_1 @pAns.eq_2 @pObs.eq_1 @Slo.ac0
def gT0 (L : List (List Bs)) : List V := L.map fun l => .lst (l.map fun m => [vS (bS m)])
theorem id0 (L : List (List Bs)) : kR0 (gT0 L) = true := by
 unfold gT0 kR0
 rw [List.all_eq_true]
 intro v hv
 obtain ⟨l, _, rfl⟩ := List.mem_map.1 hv
 rfl
@[simp] theorem lCells_len (L : List (List Bs)) : (gT0 L).length = L.length := by simp [gT0]
section
variable {L : List (List Bs)} {K : V -> Prop} {Ks : List V -> Prop} {hp : Hp}
@[simp] theorem lCells_has0 {i : Id} : V.hasL i (gT0 L) = false := fH0 (id0 L) i
@[simp] theorem lCells_hasS0 {ss : List Nat} : V.fJ0 ss (gT0 L) = false := eW0 (id0 L) ss
@[simp] theorem lCells_scalars0 : scalars (gT0 L) = true := b60 (id0 L)
@[simp] theorem lCells_pure0 : V.bt0 (gT0 L) = true := ed0 (id0 L)
end
theorem n70 {L : List (List Bs)} {K : V -> Prop} {i : Nat} (h : i < L.length) : nthK (gT0 L) i K = K (.lst (L[i].map fun m => [vS (bS m)])) := by
 rw [iV0]
 apply propext
 constructor
 ·rintro ⟨v, h1, h2⟩
  simp only [gT0, List.getElem?_map, List.getElem?_eq_getElem h, Option.map_some, Option.some.injEq] at h1
  subst h1; exact h2
 ·intro h2
  exact ⟨_, by simp only [gT0, List.getElem?_map, List.getElem?_eq_getElem h, Option.map_some], h2⟩
theorem dh0 : Ret prog j60 [] (.agg (gT0 cr0)) := by
 refine cm0 mU0 (by simp) ?_
 exact rT3 @iG0.eq_1 @gT0.eq_1 @cr0.eq_1
theorem pg0 (k : Nat) (hk : 0 < k) (hk2 : k < 2 ^ 40) : J prog cV0 [.nil, vI k] [] (· = .ret (.arr (.e 0) 0 0) [.row 9 1 true (List.replicate k [vS (bS [])])]) := by
 have hk' : (0 : Int) < k := by omega
 refine at0 fd0 (by simp) ?_
 refine rS2 @cF0.eq_1 hk' ?_
 refine ax0 [.l 22 0] ?_
 exact rT0
abbrev aQ0 (m : Bs) : List V := [vS (bS m)]
abbrev ss0 (l : List Bs) : List V := [.lst (l.map aQ0)]
def sumL (L : List (List Bs)) : Nat := (L.map List.length).sum
theorem qv0 {L : List (List Bs)} {i : Nat} (h : i < L.length) : sumL (L.take (i + 1)) = sumL (L.take i) + L[i].length := by
 unfold sumL
 rw [List.take_add_one, List.getElem?_eq_getElem h]
 simp only [List.map_append, List.sum_append, Option.toList_some, List.map_cons, List.map_nil, List.sum_cons, List.sum_nil, Nat.add_zero]
theorem sumL_flat (L : List (List Bs)) : L.flatten.length = sumL L := by
 unfold sumL; simp [List.length_flatten]
theorem ph0 (L : List (List Bs)) (i : Nat) : sumL (L.take i) <= sumL L := by
 have h := List.take_append_drop i L
 unfold sumL
 conv => rhs; rw [<- h]
 simp only [List.map_append, List.sum_append]; omega
def kT0 (L : List (List Bs)) (i : Nat) : List (List V) := (L.take i).flatten.map aQ0
@[simp] theorem flatT_zero (L : List (List Bs)) : kT0 L 0 = [] := by simp [kT0]
@[simp] theorem pD0 (L : List (List Bs)) (i : Nat) : (kT0 L i).length = sumL (L.take i) := by rw [kT0, List.length_map, sumL_flat]
theorem sh0 {L : List (List Bs)} {i : Nat} (h : i < L.length) : kT0 L (i + 1) = kT0 L i ++ L[i].map aQ0 := by
 unfold kT0
 rw [List.take_add_one, List.getElem?_eq_getElem h]
 simp only [Option.toList_some, List.flatten_append, List.map_append, List.flatten_cons, List.flatten_nil, List.append_nil]
theorem flatT_all (L : List (List Bs)) : kT0 L L.length = L.flatten.map aQ0 := by rw [kT0, List.take_length]
@[simp] theorem flatT_take (L : List (List Bs)) (i : Nat) : (kT0 L i).take (sumL (L.take i)) = kT0 L i := List.take_of_length_le (by rw [pD0]; exact Nat.le_refl _)
@[simp ↓] theorem mCell_head {l : List Bs} : (l.map aQ0 = [] \/ ∃ e, (l.map aQ0)[0]? = some e /\ e.length = 1) = True := head_map fun x => rfl
theorem mk0 (L : List (List Bs)) (h0 : 0 < sumL L) (h1 : sumL L < 2 ^ 20) (h2 : L.length < 2 ^ 20) : Ret prog cv0 [.lst (L.map ss0)] (.lst (L.flatten.map aQ0)) := by
 rw [<- flatT_all]
 refine at0 eG0 (by simp) ?_
 refine rS1 @cn0.eq_1 ?_
 refine aN0 L.length (fun i => [(11, vI i), (10, vI L.length), (9, .lst (L.map ss0)), (3, vI (sumL (L.take i))), (0, .lst (L.map ss0))]) (fun i => []) (Wk.subs (by simp [sumL]) (by simp)) ?_
 intro i hi
 have hle := ph0 L i
 by_cases hlt : i < L.length
 ·have hlt' : (i : Int) < L.length := by omega
  have hst := qv0 hlt
  have hle2 := ph0 L (i + 1)
  have hnn : ¬ ((sumL (L.take i) : Int) + (L[i].length : Int) < 0) := by omega
  refine rS2 hlt' hnn ?_
  refine .of hlt (Wk.subs (by simp [hst]) (by simp))
 ·have hge' : ¬ (i : Int) < L.length := by omega
  have hi : i = L.length := by omega
  subst hi
  rw [List.take_length] at *
  refine rS1 hge' ?_
  refine r80 [] rfl rfl (by simp) ?_
  simp
  have hO := pg0 (sumL L) h0 (by omega)
  try simp [pObs] at hO
  refine ab0 24 hO ?_
  refine rS0 ?_
  refine aN0 L.length (fun i => [(27, vI i), (26, vI L.length), (25, .lst (L.map ss0)), (6, .arr (.l 999 0) 0 (sumL (L.take i)))]) (fun i => [(.l 999 0, .row 9 1 true (kT0 L i))])
   (Wk.trans (Wk.pre (by simp [sumL]) ?_) (Wk.rens (.l 24 0) (.l 999 0) rfl (by simp) (E := [(27, vI 0), (26, vI L.length), (25, .lst (L.map ss0)), (6, .arr (.l 999 0) 0 0)]) (h := [(.l 999 0, .row 9 1 true (List.replicate (sumL L) [vS (bS [])]))]) (by simp [renF]) (by simp [renF, bO0]))) ?_
  ·simp
   exact preO_row (t := List.replicate (sumL L) [vS (bS [])]) rfl
  intro i hi
  have hle := ph0 L i
  by_cases hlt : i < L.length
  ·have hlt' : (i : Int) < L.length := by omega
   have hst := qv0 hlt
   have hle2 := ph0 L (i + 1)
   refine rS1 hlt' ?_
   refine .of hlt (Wk.rens (.l 33 0) (.l 999 0) rfl (by simp) (by simp [renF, hst]) (by simp [renF, bO0, sh0 hlt]))
  ·have hge' : ¬ (i : Int) < L.length := by omega
   have hi : i = L.length := by omega
   subst hi
   have hfl : (kT0 L L.length).length = sumL L := by rw [pD0, List.take_length]
   rw [List.take_length] at *
   refine rS2 hge' hfl ?_
   refine ax0 [] ?_
   generalize kT0 L L.length = X at *
   simp +contextual (maxSteps := 2000000) (disch := omega) [-Int.not_lt, -Int.not_le, -Nat.not_lt, -Nat.not_le, sx, <- hfl]
theorem jY0 : Ret prog hC0 [] (.lst (pOps.map aQ0)) := by
 have hl5 : cr0.length = 5 := rfl
 have hc : chunk 5 1 (gT0 cr0) = cr0.map ss0 := rfl
 refine cm0 kU0 (by simp) ?_
 refine rS1 @gI0.eq_1 ?_
 refine ak0 ?_; simp; refine ah0 (dh0) (by simp) ?_
 refine rS2 hl5 hc ?_
 refine ak0 ?_; simp; refine ah0 (mk0 cr0 (by decide) (by decide) (by decide)) (by simp) ?_
 exact rT1 @pOps.eq_1
theorem ln0 (s : Bs) : a30 (bS s) = s.map ao0 := rfl
theorem e80 (T : Nat) (bs s : Bs) (hT : liesAt prog prog.depth T (2 / prog.cellsOf T) 0 67 1 = true) (hl : bs.length + s.length < 2 ^ 40) :
  J prog cH0 [.bp (.e 0) 0, vS (bS s)] (ae0 T bs) (· = .ret (.tup [vI s.length, .c .nilIface]) (ad0 T (bs ++ s))) := by
 have hsz : (bS s).size = s.length := rfl
 refine at0 e10 (by simp [ae0]) ?_
 refine rS4 @cu0.eq_1 @ae0.eq_1 @hpE.eq_1 @hpE.eq_2 ?_
 refine aa0 [.e 0, .e 1] ?_
 simp
 have hO := gZ0 (T := T) (x := .arr (.e 1) 0 bs.length) (more := [.row 5 1 true (bs.map ao0)]) hT
 try simp [ae0, ad0] at hO
 refine ab0 7 hO ?_
 refine rS3 @br0 @ln0 hsz ?_
 refine ax0 [.l 14 0] ?_
 exact rT2 @ad0.eq_1 @br0
theorem hT69 : liesAt prog prog.depth 69 (2 / prog.cellsOf 69) 0 67 1 = true := by kernel_rfl
def aZ0 (L : List Bs) (i : Nat) : Bs := (L.take i).flatten
theorem eE0 {L : List Bs} {i : Nat} (h : i < L.length) : aZ0 L (i + 1) = aZ0 L i ++ L[i] := by
 unfold aZ0
 rw [List.take_add_one, List.getElem?_eq_getElem h]
 simp only [Option.toList_some, List.flatten_append, List.flatten_cons, List.flatten_nil, List.append_nil]
theorem b50 (L : List Bs) : aZ0 L L.length = L.flatten := by rw [aZ0, List.take_length]
theorem bj0 (L : List Bs) : aZ0 L 0 = [] := by simp [aZ0]
theorem h60 (L : List Bs) (i : Nat) : (aZ0 L i).length <= L.flatten.length := by
 have h : (L.take i ++ L.drop i).flatten.length = L.flatten.length := by rw [List.take_append_drop]
 rw [List.flatten_append, List.length_append] at h
 unfold aZ0; omega
theorem as0 (bs : Bs) (L : List Bs) (hl : bs.length + L.flatten.length < 2 ^ 40) (hL : L.length < 2 ^ 30) :
  J prog cU0 [.bp (.e 0) 0, .lst (L.map aQ0)] (ae0 69 bs) (· = .ret (.tup []) (ad0 69 (bs ++ L.flatten))) := by
 rw [<- b50] at *
 refine at0 dD0 (by simp [ae0]) ?_
 refine rS4 @cw0.eq_1 @ae0.eq_1 @hpE.eq_1 @hpE.eq_2 ?_
 refine aN0 L.length (fun i => [(8, vI i), (7, vI L.length), (6, .lst (L.map aQ0)), (0, .bp (.e 0) 0)])
  (fun i => [(.e 0, .box [.self (.e 0) 69, .arr (.l 999 0) 0 (bs ++ aZ0 L i).length]), (.l 999 0, .row 5 1 true ((bs ++ aZ0 L i).map ao0))])
  (Wk.rens (.e 1) (.l 999 0) rfl (by simp) (by simp [renF, bj0]) (by simp [renF, bO0, bj0])) ?_
 intro i hi
 by_cases hlt : i < L.length
 ·have hlt' : (i : Int) < L.length := by omega
  have hle := h60 L (i + 1)
  rw [<- b50] at hle
  have hsucc := eE0 hlt
  have hlen : (aZ0 L (i + 1)).length = (aZ0 L i).length + L[i].length := by rw [hsucc, List.length_append]
  refine rS1 hlt' ?_
  refine aa0 [.e 0, .l 999 0] ?_
  simp
  have hO := e80 69 (bs ++ aZ0 L i) L[i] hT69 (by rw [List.length_append]; omega)
  try simp [ae0, ad0] at hO
  refine ab0 16 hO ?_
  refine rS0 ?_
  refine .of hlt (Wk.rens (.l 16 0) (.l 999 0) rfl (by simp) (by simp [renF, hsucc]) (by simp [renF, bO0, hsucc]))
 ·have hge' : ¬ (i : Int) < L.length := by omega
  have : i = L.length := by omega
  subst this
  refine rS1 hge' ?_
  refine bX0 [.l 999 0] ?_
  exact rT1 @ad0.eq_1
theorem put_JD (bs : Bs) (L : List Bs) (hl : bs.length + L.flatten.length < 2 ^ 40) (hL : L.length < 2 ^ 30) :
  JD prog false cU0 [.bp (.e 0) 0, .lst (L.map aQ0)] (ae0 69 bs) none (· = .ret (.tup []) (ad0 69 (bs ++ L.flatten))) := by
 rw [<- b50] at *
 refine JD_of dD0 (by simp [ae0]) ?_
 refine rS4 @cw0.eq_1 @ae0.eq_1 @hpE.eq_1 @hpE.eq_2 ?_
 refine aN0 L.length (fun i => [(8, vI i), (7, vI L.length), (6, .lst (L.map aQ0)), (0, .bp (.e 0) 0)])
  (fun i => [(.e 0, .box [.self (.e 0) 69, .arr (.l 999 0) 0 (bs ++ aZ0 L i).length]), (.l 999 0, .row 5 1 true ((bs ++ aZ0 L i).map ao0))])
  (Wk.rens (.e 1) (.l 999 0) rfl (by simp) (by simp [renF, bj0]) (by simp [renF, bO0, bj0])) ?_
 intro i hi
 by_cases hlt : i < L.length
 ·have hlt' : (i : Int) < L.length := by omega
  have hle := h60 L (i + 1)
  rw [<- b50] at hle
  have hsucc := eE0 hlt
  have hlen : (aZ0 L (i + 1)).length = (aZ0 L i).length + L[i].length := by rw [hsucc, List.length_append]
  refine rS1 hlt' ?_
  refine aa0 [.e 0, .l 999 0] ?_
  simp
  have hO := e80 69 (bs ++ aZ0 L i) L[i] hT69 (by rw [List.length_append]; omega)
  try simp [ae0, ad0] at hO
  refine ab0 16 hO ?_
  refine rS0 ?_
  refine .of hlt (Wk.rens (.l 16 0) (.l 999 0) rfl (by simp) (by simp [renF, hsucc]) (by simp [renF, bO0, hsucc]))
 ·have hge' : ¬ (i : Int) < L.length := by omega
  have : i = L.length := by omega
  subst this
  refine rS1 hge' ?_
  refine bX0 [.l 999 0] ?_
  exact rT1 @ad0.eq_1
theorem ji0 : Ret prog l00 [] (.lst (pOps.map aQ0)) := by
 refine cm0 oL0 (by simp) ?_
 exact rT3 @kM0.eq_1 @pOps.eq_1 @cr0.eq_1
theorem jh0 (op : Int) (h : opOk op = true) : Ret prog lZ0 [vI op] (vI (lvl op)) := by
 unfold opOk at h
 simp only [decide_eq_true_eq] at h
 obtain ⟨h1, h2⟩ := h
 refine at0 oK0 (by simp) ?_
 refine rS1 @kL0.eq_1 ?_
 refine aa0 [] ?_
 simp
 have hO := an0
 try simp [ae0, ad0] at hO
 refine ab0 9 hO ?_
 by_cases a : op <= 2
 ·refine rS1 a ?_
  refine ax0 [] ?_
  exact rT2 @lvl.eq_1 a
 by_cases b : op <= 8
 ·refine rS2 a b ?_
  refine ax0 [] ?_
  exact rT3 @lvl.eq_1 a b
 by_cases c : op <= 10
 ·refine rS3 a b c ?_
  refine ax0 [] ?_
  exact rT4 @lvl.eq_1 a b c
 ·refine rS3 a b c ?_
  refine ax0 [] ?_
  exact rT4 @lvl.eq_1 a b c
theorem ep0 (x : Exq) (n : Int) (h : x.kind = 15 -> opOk x.op = true) : Ret prog lY0 [x.V, vI n] (vB (dS0 x n)) := by
 refine at0 oJ0 (by simp) ?_
 by_cases hk : x.kind = 15
 ·refine rS2 @hV0.eq_1 hk ?_
  refine ak0 ?_; simp; refine ah0 (jh0 x.op (h hk)) (by simp) ?_
  refine rS0 ?_
  refine ax0 [] ?_
  exact rT2 @dS0.eq_1 hk
 ·refine rS2 @hV0.eq_1 hk ?_
  refine ax0 [] ?_
  exact rT2 @dS0.eq_1 hk
attribute [local irreducible] vcF dfrS dEnd kN0 dJ JD
def db0 (x : Exq) (t : Bs) : Prop := ∀ bs : Bs, bs.length + t.length < 2 ^ 40 -> J prog gk0 [.bp (.e 0) 0, x.V] (ae0 69 bs) (· = .ret (.tup []) (ad0 69 (bs ++ t)))
theorem cb0 {x : Exq} {t : Bs} (h : db0 x t) (b : Bool) (bs : Bs) (hl : bs.length + (within t b).length < 2 ^ 40) :
  J prog eU0 [.bp (.e 0) 0, x.V, vB b] (ae0 69 bs) (· = .ret (.tup []) (ad0 69 (bs ++ within t b))) := by
 refine J_dfr false iz0 (by simp [ae0]) ?_
 refine rS8 @eA0.eq_1 @fm0 @fl0 @nw0 @jo0 @ae0.eq_1 @hpE.eq_1 @hpE.eq_2 ?_
 cases b with
 | false =>
  have hl' : bs.length + t.length < 2 ^ 40 := hl
  refine rS4 @fm0 @fl0 @nw0 @jo0 ?_
  refine aa0 [.e 0, .e 1] ?_
  simp
  have hO := h bs hl'
  try simp [ae0, ad0] at hO
  refine ab0 14 hO ?_
  refine rS4 @fm0 @fl0 @nw0 @jo0 ?_
  refine bX0 [.l 14 0] ?_
  exact rT2 @ad0.eq_1 @within.eq_1
 | true =>
  have hl' : bs.length + (t.length + 2) < 2 ^ 40 := by simp [within] at hl; omega
  refine rS4 @fm0 @fl0 @nw0 @jo0 ?_
  refine aa0 [.e 0, .e 1] ?_
  simp
  have hO := as0 bs [[40]] (by simp; omega) (by simp)
  try simp [ae0, ad0] at hO
  refine ab0 9 hO ?_
  refine rS4 @fm0 @fl0 @nw0 @jo0 ?_
  refine oD0 rfl rfl (.ren (.l 11 0) 2 (by simp) (by simp) (E := [(0, .bp (.e 0) 0), (4, .bp (.l 4 0) 0)])
   (h := [(.e 2, .row 9 1 true [[vS (bS [41])]]), (.e 0, .box [.self (.e 0) 69, .arr (.l 9 0) 0 (bs.length + 1)]), (.l 9 0, .row 5 1 true (bs.map ao0 ++ [ao0 40])), (.l 4 0, .box x.cells)])
   (cs' := [.bp (.e 0) 0, .arr (.e 2) 0 1]) (by simp [renF]) (by simp [renF, bO0]) (by simp [renF])) rfl ?_
  refine rS0 ?_
  refine aa0 [.e 0, .l 9 0] ?_
  simp
  have hO := h (bs ++ [40]) (by simp; omega)
  try simp [ae0, ad0] at hO
  refine ab0 14 hO ?_
  refine rS0 ?_
  refine dEnd_nrm _ _ (Wk.refl _ _) (d00 [.e 0, .l 14 0] (by simp) ?_)
  simp
  have hp := put_JD (bs ++ [40] ++ t) [[41]] (by simp; omega) (by simp)
  simp [ae0, ad0] at hp
  refine dJ_retB 900 hp ?_
  simp
  refine ax0 [.l 900 0] ?_
  exact rT2 @ad0.eq_1 @within.eq_1
end Go.Am
end

section
namespace Go.Am
theorem mw0 {H : Imm} {μ : Mu} {v v' : V} {vs : Array Value} (hv : RL H μ [v, v'] vs) : vs = #[vs.getD 0 undef, vs.getD 1 undef] := by
 have hs : vs.size = 2 := by have := hv.1; simpa using this
 apply Array.ext
 ·simp [hs]
 ·intro i h1 h2
  have h3 : i < 2 := by simpa using h2
  match i, h3 with
  | 0, _ => simp [Array.getD, hs]
  | 1, _ => simp [Array.getD, hs]
end Go.Am
end

section
namespace Go.Am
variable {ts : List Tok}
structure GoesX (ts : List Tok) (f : Nat) : Prop where
 ex : ∀ {d n : Nat} {a : Exq} {m : Nat}, n < ts.length -> b10 ts f d n = .ok (a, m) -> n < m /\ m < ts.length
 bin : ∀ {l d n : Nat} {a : Exq} {m : Nat}, n < ts.length -> pBin ts f l d n = .ok (a, m) -> n < m /\ m < ts.length
 loop : ∀ {l d : Nat} {out : Exq} {n : Nat} {a : Exq} {m : Nat}, n < ts.length -> lC0 ts f l d out n = .ok (a, m) -> n <= m /\ m < ts.length
 un : ∀ {d n : Nat} {a : Exq} {m : Nat}, n < ts.length -> pUn ts f d n = .ok (a, m) -> n < m /\ m < ts.length
 post : ∀ {d : Nat} {out : Exq} {n : Nat} {a : Exq} {m : Nat}, n < ts.length -> lD0 ts f d out n = .ok (a, m) -> n <= m /\ m < ts.length
 prim : ∀ {d n : Nat} {a : Exq} {m : Nat}, n < ts.length -> jX0 ts f d n = .ok (a, m) -> n < m /\ m < ts.length
 args : ∀ {d : Nat} {out : List Exq} {n : Nat} {a : List Exq} {m : Nat}, n < ts.length -> iW0 ts f d out n = .ok (a, m) -> n < m /\ m < ts.length
theorem iR0 {l : Nat} {t : Tok} (h : ek0 l t = true) : t.kind = 4 := by
 unfold ek0 at h
 simp only [Bool.and_eq_true, decide_eq_true_eq] at h
 exact h.1
theorem ks0 (hE : TEnd ts) : ∀ f, GoesX ts f
 | 0 => ⟨fun _ h => by simp [b10] at h, fun _ h => by simp [pBin] at h, fun _ h => by simp [lC0] at h, fun _ h => by simp [pUn] at h, fun _ h => by simp [lD0] at h, fun _ h => by simp [jX0] at h, fun _ h => by simp [iW0] at h⟩
 | f + 1 => by
  have ih := ks0 hE f
  refine ⟨fun hn h => ?_, fun hn h => ?_, fun hn h => ?_, fun hn h => ?_, fun hn h => ?_, fun hn h => ?_, fun hn h => ?_⟩
  ·rw [b10] at h
   obtain ⟨_, _, h⟩ := ag0 h
   exact ih.bin hn h
  ·rw [pBin] at h
   split at h
   ·exact ih.un hn h
   ·obtain ⟨⟨b, n1⟩, e1, h⟩ := ag0 h
    have q1 := ih.bin hn e1
    have q2 := ih.loop q1.2 h
    dsimp only at *; omega
  ·rw [lC0] at h
   split at h
   ·rename_i hi
    have h0 := hE _ hn (by rw [iR0 hi]; decide)
    obtain ⟨⟨b, n1⟩, e1, h⟩ := ag0 h
    have q1 := ih.bin h0 e1
    dsimp only at *
    split at h
    ·split at h
     ·cases h
     ·injection h with h; injection h with h1 h2; subst h2; omega
    ·have q2 := ih.loop q1.2 h; omega
   ·injection h with h; injection h with h1 h2; subst h2; omega
  ·rw [pUn] at h
   split at h
   ·rename_i hi
    have h0 := aw0 hE hn hi (by decide)
    obtain ⟨_, _, h⟩ := ag0 h
    obtain ⟨⟨b, n1⟩, e1, h⟩ := ag0 h
    have q1 := ih.un h0 e1
    injection h with h; injection h with h1 h2; subst h2
    dsimp only at *; omega
   split at h
   ·rename_i hi
    have h0 := aw0 hE hn hi (by decide)
    obtain ⟨_, _, h⟩ := ag0 h
    obtain ⟨⟨b, n1⟩, e1, h⟩ := ag0 h
    have q1 := ih.un h0 e1
    injection h with h; injection h with h1 h2; subst h2
    dsimp only at *; omega
   ·obtain ⟨⟨b, n1⟩, e1, h⟩ := ag0 h
    have q1 := ih.prim hn e1
    have q2 := ih.post q1.2 h
    dsimp only at *; omega
  ·rw [lD0] at h
   split at h
   ·rename_i hi
    have h0 := aw0 hE hn hi (by decide)
    obtain ⟨⟨b, n1⟩, e1, h⟩ := ag0 h
    obtain ⟨n2, e2, h⟩ := ag0 h
    have q1 := ih.ex h0 e1
    have q2 := al0 hE q1.2 e2
    have q3 := ih.post q2.2 h
    dsimp only at *; omega
   ·injection h with h; injection h with h1 h2; subst h2; omega
  ·rw [jX0] at h
   split at h
   ·rename_i hi; have := hE _ hn (by rw [hi]; decide); injection h with h; injection h with h1 h2; subst h2; omega
   split at h
   ·rename_i hi; have := hE _ hn (by rw [hi]; decide); injection h with h; injection h with h1 h2; subst h2; omega
   split at h
   ·rename_i hi; have := aw0 hE hn hi (by decide); injection h with h; injection h with h1 h2; subst h2; omega
   split at h
   ·rename_i hi; have := aw0 hE hn hi (by decide); injection h with h; injection h with h1 h2; subst h2; omega
   split at h
   ·rename_i hi
    have h0 := aw0 hE hn hi (by decide)
    obtain ⟨⟨b, n1⟩, e1, h⟩ := ag0 h
    obtain ⟨n2, e2, h⟩ := ag0 h
    have q1 := ih.ex h0 e1
    have q2 := al0 hE q1.2 e2
    injection h with h; injection h with h1 h2; subst h2
    dsimp only at *; omega
   ·obtain ⟨⟨b, n1⟩, e1, h⟩ := ag0 h
    have q1 := a10 hE hn e1
    have e1' := e1
    unfold dA0 at e1'
    split at e1'
    ·rename_i hk
     injection e1' with e1'; injection e1' with e2 e3; subst e3
     split at h
     ·rename_i hi
      have h0 := aw0 hE q1.2 hi (by decide)
      split at h
      ·rename_i hi2
       have h00 := aw0 hE h0 hi2 (by decide)
       injection h with h; injection h with h1 h2; subst h2; omega
      ·obtain ⟨⟨b, n2⟩, e4, h⟩ := ag0 h
       have q2 := ih.args h0 e4
       injection h with h; injection h with h1 h2; subst h2
       dsimp only at *; omega
     ·injection h with h; injection h with h1 h2; subst h2; omega
    ·cases e1'
  ·rw [iW0] at h
   obtain ⟨⟨b, n1⟩, e1, h⟩ := ag0 h
   have q1 := ih.ex hn e1
   dsimp only at *
   split at h
   ·rename_i hi
    have h0 := aw0 hE q1.2 hi (by decide)
    injection h with h; injection h with h1 h2; subst h2; omega
   ·obtain ⟨n2, e2, h⟩ := ag0 h
    have q2 := al0 hE q1.2 e2
    have q3 := ih.args q2.2 h
    omega
end Go.Am
end

section
namespace Go.Am
set_option maxRecDepth 100000
attribute [local irreducible] vc vcIs vcI vcOp vcD vcDp vcDR vcT vcAR bV0 aY0 panD neG ne pv J bH0 bM0 bY0 bd0 evK evsK nthK objK boxK rowK bz0 intK strK aggK fnK ifcK ay0 az0 ldK ldaK iaK srcK stK appK appD b00 pvK bC0 aW0 bL0 bs0 slAV bG0
variable {ts : List Tok} {n : Nat}
def ap0 (text : ByteArray) (args : V) (at_ : Int) : Ob := .box [vI 7, vI 0, vI 0, vS text, vI 0, vS (bS []), args, vI at_]
def hh0 (ts : List Tok) (n : Int) (text : ByteArray) (at_ : Int) (d : Nat) (out : List Exq) : List Ob :=
 [ap0 text (.arr (.e 4) 0 out.length) at_, .box [.bp (.e 3) 0], .box [vI d], .box [.lst (ts.map Tok.cells), vI n], .row dP0 8 true (out.map Exq.cells)]
def fS0 (ts : List Tok) (n : Int) (text : ByteArray) (at_ : Int) (d : Nat) (out : List Exq) : List Ob :=
 [ap0 text (.arr (.e 5) 0 out.length) at_, .box [.bp (.e 3) 0], .box [vI d], .box [.lst (ts.map Tok.cells), vI n], .gone, .row dP0 8 true (out.map Exq.cells)]
@[simp] theorem elemK_last {α : Type} {g : α -> List V} {l : List α} {e : List V} {K : List V -> Prop} : fZ0 (l.map g ++ [e]) l.length K = K e :=
 aP0 (by rw [List.getElem?_append_right (by simp)]; simp)
@[simp] theorem set_last {α : Type} {g : α -> List V} {l : List α} {e e' : List V} : (l.map g ++ [e]).set l.length e' = l.map g ++ [e'] := by
 rw [List.set_append_right _ _ (by simp)]; simp
theorem kB0 {e us : List V} (h : us.length = e.length) : setAt e 0 us = us := by
 unfold setAt
 rw [List.take_zero, Nat.zero_add, h, List.drop_length]; simp
theorem q10 (f d : Nat) (hd : d <= 24) (text : ByteArray) (at_ : Int) (out : List Exq) (hl : ts.length < 2 ^ 40) (ho : out.length < 2 ^ 40)
  (hx : J prog ba0 [.bp (.e 0) 0, vI (d + 1 : Nat)] (pObs ts n) (· = pAns ts Exq.V (b10 ts f (d + 1) n))) :
  J prog bc0 [.bp (.e 0) 0, .bp (.e 1) 0, .bp (.e 2) 0] (hh0 ts n text at_ d out) (fun r => r = match b10 ts f (d + 1) n with
   | .ok (x, m) => .ret (.tup []) (fS0 ts m text at_ d (out ++ [x]))
   | .bad a e => .pan (iX0 ts a e) (hh0 ts a text at_ d out)) := by
 have hw : b10 ts f (d + 1) n = b10 ts f (d + 1) n := rfl
 refine at0 g30 (by simp [hh0]) ?_
 refine rS5 @dr0.eq_1 @hh0.eq_1 @ap0.eq_1 @hpE.eq_1 @hpE.eq_2 ?_
 have hJ := hx
 rcases hR8 : b10 ts f (d + 1) n with ⟨x,m⟩ | ⟨aa, ae⟩
 rotate_left
 ·rw [hR8] at hJ hw
  try simp only [LxR.bind] at hw
  simp only [pAns, ar0] at hJ
  refine bl0 [.e 3] ?_
  simp
  have hO := hJ
  try simp [pObs, ap0, hh0, fS0] at hO
  refine cL0 hO ?_
  refine rS0 ?_
  refine endP ?_
  exact rT6 hw @pAns.eq_1 @pAns.eq_2 @ar0.eq_1 @ar0.eq_2 @pObs.eq_1
 rw [hR8] at hJ hw
 try simp only [LxR.bind] at hw
 simp only [pAns, ar0] at hJ
 refine bl0 [.e 3] ?_
 simp
 have hO := hJ
 try simp [pObs, ap0, hh0, fS0] at hO
 refine cE0 8 hO ?_
 refine rS1 @kB0 ?_
 refine bX0 [.l 11 0] ?_
 exact rT2 @fS0.eq_1 @ap0.eq_1
end Go.Am
end

section
namespace Go.Am
set_option maxRecDepth 100000
theorem cM0 {P : Program} {env : Env} {hp : Hp} {α : Type} {g : Nat} {args : List V} {obs : List Ob} {obs' : α -> List Ob} {ids : List Id} {d : Option Nat} {K : Env -> Hp -> Prop} {Kp : V -> Hp -> Prop} {v : V} (h : J P g args obs (fun r => ∃ y, r = .pan v (obs' y)))
  (hK : ∀ y, fE0 env hp ids 0 v (obs' y) fun v' _ hp' => Kp v' hp') : bC0 P g args obs env hp ids d K Kp := J.mono h fun r e => by obtain ⟨y, e⟩ := e; subst e; exact hK y
attribute [local irreducible] vc vcIs vcI vcOp vcD vcDp vcDR vcT vcAR bV0 aY0 panD neG ne pv J bH0 bM0 bY0 bd0 evK evsK nthK objK boxK rowK bz0 intK strK aggK fnK ifcK ay0 az0 ldK ldaK iaK srcK stK appK appD b00 pvK bC0 aW0 bL0 bs0 slAV bG0
variable {ts : List Tok} {n : Nat}
def au0 (ts : List Tok) (n : Int) (text : ByteArray) (args : V) (at_ : Int) (d : Nat) : List Ob :=
 [.box [.lst (ts.map Tok.cells), vI n], ap0 text args at_, .box [.bp (.e 0) 0], .box [vI d]]
theorem nE0 (hl : ts.length < 2 ^ 40) (hn : n < ts.length) (h : isT ts n 4 [41] = true) (text : ByteArray) (at_ : Int) (d : Nat) :
  J prog bS0 [.bp (.e 0) 0, vS (bS [41]), .fn bc0 [.bp (.e 1) 0, .bp (.e 2) 0, .bp (.e 3) 0]] (au0 ts n text .nil at_ d) (· = .ret (.tup []) (au0 ts (n + 1 : Nat) text .nil at_ d)) := by
 refine at0 cl0 (by simp [au0]) ?_
 refine rS5 @bD0.eq_1 @au0.eq_1 @ap0.eq_1 @hpE.eq_1 @hpE.eq_2 ?_
 refine aa0 [.e 0] ?_
 simp
 have hO := aj0 hn hl 4 [41]
 try simp [pObs, ap0, hh0, fS0, au0] at hO
 refine ab0 8 hO ?_
 refine rS1 h ?_
 refine ax0 [] ?_
 exact rT0
theorem nF0 (hE : TEnd ts) (hl : ts.length < 2 ^ 40) (hn : n < ts.length) (h : isT ts n 4 [41] = false) (text : ByteArray) (at_ : Int) (d : Nat) (hd : d <= 24) (F : Nat)
  (IH : ∀ g, g < F -> ∀ n, n < ts.length -> (b10 ts g (d + 1) n).live -> J prog ba0 [.bp (.e 0) 0, vI (d + 1 : Nat)] (pObs ts n) (· = pAns ts Exq.V (b10 ts g (d + 1) n)))
  (hlive : (iW0 ts F (d + 1) [] n).live) :
  J prog bS0 [.bp (.e 0) 0, vS (bS [41]), .fn bc0 [.bp (.e 1) 0, .bp (.e 2) 0, .bp (.e 3) 0]] (au0 ts n text .nil at_ d) (fun r => match iW0 ts F (d + 1) [] n with
   | .ok (xs, m) => r = .ret (.tup []) (au0 ts m text (.arr (.e 4) 0 xs.length) at_ d ++ [.row dP0 8 true (xs.map Exq.cells)])
   | .bad a e => ∃ y : List (List V), r = .pan (iX0 ts a e) (au0 ts a text (.lst y) at_ d)) := by
 generalize hR : iW0 ts F (d + 1) [] n = R at *
 refine at0 cl0 (by simp [au0]) ?_
 refine rS5 @bD0.eq_1 @au0.eq_1 @ap0.eq_1 @hpE.eq_1 @hpE.eq_2 ?_
 refine aa0 [.e 0] ?_
 simp
 have hO := aj0 hn hl 4 [41]
 try simp [pObs, ap0, hh0, fS0, au0] at hO
 refine ab0 8 hO ?_
 refine rS1 h ?_
 refine aO0 (fun y : Nat × Nat × List Exq => y.1) (fun y => [(0, .bp (.e 0) 0), (1, vS (bS [41])), (2, .fn bc0 [.bp (.e 1) 0, .bp (.e 2) 0, .bp (.e 3) 0])])
  (fun y => [(.e 0, .box [.lst (ts.map Tok.cells), vI y.2.1]), (.e 1, ap0 text (.arr (.l 999 0) 0 y.2.2.length) at_), (.e 2, .box [.bp (.e 0) 0]), (.e 3, .box [vI d]), (.l 999 0, .row dP0 8 true (y.2.2.map Exq.cells))])
  (fun y => y.1 <= F /\ y.2.1 < ts.length /\ y.2.2.length <= y.2.1 /\ iW0 ts y.1 (d + 1) y.2.2 y.2.1 = R) (F, n, []) ⟨Nat.le_refl _, hn, by simp, hR⟩
  (Wk.trans (Wk.subs (by simp) (by simp [ap0])) (Wk.rowB (b := .e 1) (id := .l 999 0) (off := 6) (ty := dP0) (sz := 8) rfl rfl (by simp) (by simp))) ?_
 rintro ⟨g, n', out⟩ ⟨hg, hn', ho, hw⟩
 dsimp only at hg hn' ho hw
 obtain _ | g := g
 ·rw [iW0] at hw; subst hw; exact absurd rfl hlive
 rw [iW0] at hw
 have hlv := hlive
 rw [<- hw] at hlv
 obtain ⟨hlx, hcont⟩ := LxR.aI0 hlv
 have hJ := q10 g d hd text at_ out hl (by omega) (IH g (by omega) n' hn' hlx)
 rcases hx : b10 ts g (d + 1) n' with ⟨x, m⟩ | ⟨a, e⟩
 ·rw [hx] at hJ hw
  simp only [LxR.bind] at hw
  have q1 := (ks0 hE g).ex hn' hx
  refine rS1 @ap0.eq_1 ?_
  refine aa0 [.e 1, .e 2, .e 3, .e 0, .l 999 0] ?_
  simp
  have hO := hJ
  try simp [pObs, ap0, hh0, fS0, au0] at hO
  refine ab0 10 hO ?_
  refine rS0 ?_
  refine aa0 [.e 0] ?_
  simp
  have hO := aj0 q1.2 hl 4 [41]
  try simp [pObs, ap0, hh0, fS0, au0] at hO
  refine ab0 13 hO ?_
  cases h2 : isT ts m 4 [41] with
  | true =>
   rw [h2, if_pos rfl] at hw
   subst hw
   refine rS0 ?_
   refine ax0 [.l 10 0] ?_
   exact rT0
  | false =>
   rw [h2, if_neg (by simp)] at hw
   refine rS0 ?_
   rcases h3 : bi0 ts m [44] with m2 | ⟨a, e⟩
   ·have q2 := al0 hE q1.2 h3
    have hJ2 := aq0 q1.2 hl [44]
    rw [h3] at hJ2 hw
    simp only [LxR.bind] at hw
    simp only [ar0] at hJ2
    refine aa0 [.e 0] ?_
    simp
    have hO := hJ2
    try simp [pObs, ap0, hh0, fS0, au0] at hO
    refine ab0 15 hO ?_
    refine rS0 ?_
    refine .of (g, m2, out ++ [x]) ⟨by dsimp only; omega, q2.2, by simp; omega, hw⟩ (by dsimp only; omega) (Wk.rens (.l 10 0) (.l 999 0) rfl (by simp) (by simp [renF, ap0]) (by simp [renF, bO0, ap0]))
   ·have hJ2 := aq0 q1.2 hl [44]
    rw [h3] at hJ2 hw
    simp only [LxR.bind] at hw
    simp only [ar0] at hJ2
    subst hw
    refine aa0 [.e 0] ?_
    simp
    have hO := hJ2
    try simp [pObs, ap0, hh0, fS0, au0] at hO
    refine af0 hO ?_
    refine rS0 ?_
    refine endP ?_
    exact rT0
 ·rw [hx] at hJ hw
  simp only [LxR.bind] at hw
  subst hw
  refine rS1 @ap0.eq_1 ?_
  refine aa0 [.e 1, .e 2, .e 3, .e 0, .l 999 0] ?_
  simp
  have hO := hJ
  try simp [pObs, ap0, hh0, fS0, au0] at hO
  refine af0 hO ?_
  refine rS0 ?_
  refine endP ?_
  exact rT0
end Go.Am
end

section
namespace Go.Am
set_option maxRecDepth 100000
attribute [local irreducible] vc vcIs vcI vcOp vcD vcDp vcDR vcT vcAR bV0 aY0 panD neG ne pv J bH0 bM0 bY0 bd0 evK evsK nthK objK boxK rowK bz0 intK strK aggK fnK ifcK ay0 az0 ldK ldaK iaK srcK stK appK appD b00 pvK bC0 aW0 bL0 bs0 slAV bG0
variable {ts : List Tok} {n : Nat}
theorem lc0 (hE : TEnd ts) (hl : ts.length < 2 ^ 40) (F d : Nat) (hd : d <= 24)
  (IH : ∀ g, g < F -> ∀ n, n < ts.length -> (b10 ts g (d + 1) n).live -> J prog ba0 [.bp (.e 0) 0, vI (d + 1 : Nat)] (pObs ts n) (· = pAns ts Exq.V (b10 ts g (d + 1) n)))
  (hn : n < ts.length) (hlive : (jX0 ts F d n).live) : J prog eu0 [.bp (.e 0) 0, vI d] (pObs ts n) (· = pAns ts Exq.V (jX0 ts F d n)) := by
 obtain _ | F := F
 ·rw [jX0] at hlive; exact absurd rfl hlive
 have hw : jX0 ts (F + 1) d n = jX0 ts (F + 1) d n := rfl
 conv at hw => rhs; rw [jX0]
 rw [hw] at hlive ⊢
 clear hw
 refine at0 h70 (by simp [pObs]) ?_
 refine rS4 @dU0.eq_1 @pObs.eq_1 @hpE.eq_1 @hpE.eq_2 ?_
 refine aa0 [.e 0] ?_
 simp
 have hO := a90 hn
 try simp [pObs, ap0, au0] at hO
 refine ab0 9 hO ?_
 by_cases k2 : (tk ts n).kind = 2
 ·rw [if_pos k2]
  refine rS1 k2 ?_
  refine ax0 [] ?_
  simp +contextual (maxSteps := 2000000) (disch := omega) [-Int.not_lt, -Int.not_le, -Nat.not_lt, -Nat.not_le, sx, pAns, pObs, Exq.ac0, Exq.kind, Exq.op, Exq.num, Exq.text, Exq.slot, Exq.type, Exq.args, Exq.at_]
 rw [if_neg k2] at hlive ⊢
 by_cases k3 : (tk ts n).kind = 3
 ·rw [if_pos k3]
  refine rS2 k2 k3 ?_
  refine ax0 [] ?_
  simp +contextual (maxSteps := 2000000) (disch := omega) [-Int.not_lt, -Int.not_le, -Nat.not_lt, -Nat.not_le, sx, pAns, pObs, Exq.ac0, Exq.kind, Exq.op, Exq.num, Exq.text, Exq.slot, Exq.type, Exq.args, Exq.at_]
 rw [if_neg k3] at hlive ⊢
 refine rS2 k2 k3 ?_
 refine aa0 [.e 0] ?_
 simp
 have hO := aj0 hn hl 1 hJ0
 try simp [pObs, ap0, au0] at hO
 refine ab0 44 hO ?_
 cases h1 : isT ts n 1 hJ0 with
 | true =>
  refine rS0 ?_
  refine ax0 [] ?_
  simp +contextual (maxSteps := 2000000) (disch := omega) [-Int.not_lt, -Int.not_le, -Nat.not_lt, -Nat.not_le, sx, pAns, pObs, Exq.ac0, Exq.kind, Exq.op, Exq.num, Exq.text, Exq.slot, Exq.type, Exq.args, Exq.at_]
 | false =>
 rw [h1] at hlive
 simp only [Bool.false_eq_true, if_false] at hlive ⊢
 refine rS0 ?_
 refine aa0 [.e 0] ?_
 simp
 have hO := aj0 hn hl 1 eI0
 try simp [pObs, ap0, au0] at hO
 refine ab0 50 hO ?_
 cases h2 : isT ts n 1 eI0 with
 | true =>
  refine rS0 ?_
  refine ax0 [] ?_
  simp +contextual (maxSteps := 2000000) (disch := omega) [-Int.not_lt, -Int.not_le, -Nat.not_lt, -Nat.not_le, sx, pAns, pObs, Exq.ac0, Exq.kind, Exq.op, Exq.num, Exq.text, Exq.slot, Exq.type, Exq.args, Exq.at_]
 | false =>
 rw [h2] at hlive
 simp only [Bool.false_eq_true, if_false] at hlive ⊢
 refine rS0 ?_
 refine aa0 [.e 0] ?_
 simp
 have hO := aj0 hn hl 4 [40]
 try simp [pObs, ap0, au0] at hO
 refine ab0 56 hO ?_
 cases h3 : isT ts n 4 [40] with
 | true =>
  have h0 := aw0 hE hn h3 (by decide)
  rw [h3] at hlive
  simp only [if_true] at hlive ⊢
  obtain ⟨hlx, _⟩ := LxR.aI0 hlive
  have hJ := IH F (by omega) (n + 1) h0 hlx
  refine rS0 ?_
  rcases hx : b10 ts F (d + 1) (n + 1) with ⟨x, m⟩ | ⟨a, e⟩
  ·rw [hx] at hJ
   have q1 := (ks0 hE F).ex h0 hx
   simp only [pAns, LxR.bind] at hJ ⊢
   refine aa0 [.e 0] ?_
   simp
   have hO := hJ
   try simp [pObs, ap0, au0] at hO
   refine ab0 60 hO ?_
   refine rS0 ?_
   have hJ2 := aq0 q1.2 hl [41]
   rcases h4 : bi0 ts m [41] with m2 | ⟨a, e⟩
   ·rw [h4] at hJ2
    simp only [ar0] at hJ2
    refine aa0 [.e 0] ?_
    simp
    have hO := hJ2
    try simp [pObs, ap0, au0] at hO
    refine ab0 62 hO ?_
    refine rS0 ?_
    refine ax0 [] ?_
    exact rT1 @pObs.eq_1
   ·rw [h4] at hJ2
    simp only [ar0] at hJ2
    refine aa0 [.e 0] ?_
    simp
    have hO := hJ2
    try simp [pObs, ap0, au0] at hO
    refine af0 hO ?_
    refine rS0 ?_
    refine endP ?_
    exact rT1 @pObs.eq_1
  ·rw [hx] at hJ
   simp only [pAns, LxR.bind] at hJ ⊢
   refine aa0 [.e 0] ?_
   simp
   have hO := hJ
   try simp [pObs, ap0, au0] at hO
   refine af0 hO ?_
   refine rS0 ?_
   refine endP ?_
   exact rT1 @pObs.eq_1
 | false =>
 rw [h3] at hlive
 simp only [Bool.false_eq_true, if_false] at hlive ⊢
 refine rS0 ?_
 have hJ := eo0 hn hl
 rcases hN : dA0 ts n with ⟨t, n1⟩ | ⟨a, e⟩
 rotate_left
 ·rw [hN] at hJ
  simp only [pAns, LxR.bind] at hJ ⊢
  refine aa0 [.e 0] ?_
  simp
  have hO := hJ
  try simp [pObs, ap0, au0] at hO
  refine af0 hO ?_
  refine rS0 ?_
  refine endP ?_
  exact rT1 @pObs.eq_1
 have hlt := a10 hE hn hN
 have hnn : t = tk ts n /\ n1 = n + 1 := by
  unfold dA0 at hN
  split at hN
  ·injection hN with hN; injection hN with h5 h6; exact ⟨h5.symm, h6.symm⟩
  ·cases hN
 obtain ⟨rfl, rfl⟩ := hnn
 rw [hN] at hJ hlive
 simp only [pAns, LxR.bind] at hJ hlive ⊢
 refine aa0 [.e 0] ?_
 simp
 have hO := hJ
 try simp [pObs, ap0, au0] at hO
 refine ab0 65 hO ?_
 refine rS0 ?_
 refine aa0 [.e 0] ?_
 simp
 have hO := aj0 hlt.2 hl 4 [40]
 try simp [pObs, ap0, au0] at hO
 refine ab0 67 hO ?_
 cases h4 : isT ts (n + 1) 4 [40] with
 | false =>
  refine rS0 ?_
  refine ax0 [] ?_
  simp +contextual (maxSteps := 2000000) (disch := omega) [-Int.not_lt, -Int.not_le, -Nat.not_lt, -Nat.not_le, sx, pObs, Exq.ac0, Exq.kind, Exq.op, Exq.num, Exq.text, Exq.slot, Exq.type, Exq.args, Exq.at_]
 | true =>
 have h5 := aw0 hE hlt.2 h4 (by decide)
 rw [h4] at hlive
 simp only [if_true] at hlive ⊢
 refine rS0 ?_
 cases h6 : isT ts (n + 2) 4 [41] with
 | true =>
  refine aa0 [.e 0, .l 7 0, .l 2 0, .l 3 0] ?_
  simp
  have hO := nE0 hl h5 h6 (tk ts n).text (tk ts n).at_ d
  try simp [pObs, ap0, au0] at hO
  refine ab0 81 hO ?_
  refine rS0 ?_
  refine ax0 [] ?_
  simp +contextual (maxSteps := 2000000) (disch := omega) [-Int.not_lt, -Int.not_le, -Nat.not_lt, -Nat.not_le, sx, pObs, Exq.ac0, Exq.kind, Exq.op, Exq.num, Exq.text, Exq.slot, Exq.type, Exq.args, Exq.at_]
  omega
 | false =>
  rw [h6] at hlive
  simp only [Bool.false_eq_true, if_false] at hlive ⊢
  have hla := (LxR.aI0 hlive).1
  have hJ2 := nF0 hE hl h5 h6 (tk ts n).text (tk ts n).at_ d hd F (fun g hg => IH g (by omega)) hla
  rcases hA : iW0 ts F (d + 1) [] (n + 2) with ⟨xs, m⟩ | ⟨a, e⟩
  ·rw [hA] at hJ2
   simp only [LxR.bind] at hJ2 ⊢
   refine aa0 [.e 0, .l 7 0, .l 2 0, .l 3 0] ?_
   simp
   have hO := hJ2
   try simp [pObs, ap0, au0] at hO
   refine ab0 81 hO ?_
   refine rS0 ?_
   refine ax0 [] ?_
   simp +contextual (maxSteps := 2000000) (disch := omega) [-Int.not_lt, -Int.not_le, -Nat.not_lt, -Nat.not_le, sx, pObs, Exq.ac0, Exq.kind, Exq.op, Exq.num, Exq.text, Exq.slot, Exq.type, Exq.args, Exq.at_]
  ·rw [hA] at hJ2
   simp only [LxR.bind] at hJ2 ⊢
   refine cZ0 [.e 0, .l 7 0, .l 2 0, .l 3 0] rfl rfl (by simp) ?_
   simp
   have hpO := hJ2
   try simp [pObs, ap0, au0] at hpO
   refine cM0 hpO ?_
   clear hpO
   intro y
   refine rS0 ?_
   refine endP ?_
   exact rT3 @pObs.eq_1 @pAns.eq_1 @pAns.eq_2
end Go.Am
end

section
namespace Go.Am
variable {P : Program} {n : Sz} {H : Imm} {μ : Mu} {env : Env} {hp : Hp} {a : Act} {w : World}
def V.fz (i : Id) (xs : List (List V)) : V -> V
 | .arr j o m => if j = i then (if o + m <= xs.length then .lst ((xs.drop o).take m) else .any) else .arr j o m
 | v => v
def Ob.fz (i : Id) (xs : List (List V)) : Ob -> Ob
 | .box cs => .box (cs.map (V.fz i xs))
 | o => o
theorem fz_ok {i : Id} {ty sz : Nat} {xs : List (List V)} (hW : Wd H μ hp w) (hl : hp.lookup i = some (.row ty sz false xs)) {v : V} {x : Value} (h : R H μ v x) : R H μ (V.fz i xs v) x := by
 unfold V.fz
 split
 ·rename_i j o m
  split
  ·rename_i e; subst e
   split
   ·rename_i hle; exact mF0 hW hl hle h μ
   ·exact .any x
  ·exact h
 ·exact h
theorem Ob.fz_own {i : Id} {xs : List (List V)} (o : Ob) : (o.fz i xs).own = o.own := by cases o <;> rfl
theorem Wk.frz {E : Env} {h : Hp} (i : Id) {ty sz : Nat} {xs : List (List V)} (hi : hp.lookup i = some (.row ty sz true xs)) (hE : ∀ p ∈ E, bd0 env p.1 fun v => V.fz i xs v = p.2)
  (hh : ∀ p ∈ h, p.1 ≠ i /\ objK hp p.1 fun o => Ob.fz i xs o = p.2) : Wk E h env hp := fun n H μ a w hS => by
 obtain ⟨H1, hle, hS1, hx1⟩ := hS.frz (.arr i 0 0)
 have hl1 : (Hp.frz (.arr i 0 0) hp).lookup i = some (.row ty sz false xs) := by rw [hK0, hi]; simp [V.has, Ob.frz]
 have hoth : ∀ j, j ≠ i -> (Hp.frz (.arr i 0 0) hp).lookup j = hp.lookup j := by
  intro j hj
  rw [hK0]
  have : V.has j (.arr i 0 0) = false := by simp [V.has, Ne.symm hj]
  rw [this]
  cases hp.lookup j <;> rfl
 have hW := hS1.wd
 have hob : ∀ j o, h.lookup j = some o -> ∃ o', (Hp.frz (.arr i 0 0) hp).lookup j = some o' /\ o = o'.fz i xs := by
  intro j o hl
  obtain ⟨h1, h2⟩ := hh (j, o) (bB0 hl)
  rw [if0] at h2
  obtain ⟨o', h3, h4⟩ := h2
  exact ⟨o', by rw [hoth j h1]; exact h3, h4.symm⟩
 refine ⟨H1, μ, ⟨hS1.defers, hS1.size, fun s v hs => ?_, ⟨fun j o hl => ?_, fun j k oj ok bj bk hj hoj hk hok hbj hbk heq => ?_, hW.imm, hW.glo⟩⟩, hx1.trans ⟨⟨Imm.le_refl _, rfl, rfl, rfl, Nat.le_refl _, fun _ _ _ => rfl, fun b hO hb => ?_, fr0⟩, fun _ => rfl⟩⟩
 ·have h1 := hE (s, v) (bB0 hs)
  rw [eO0] at h1
  obtain ⟨u, h2, rfl⟩ := h1
  exact fz_ok hW hl1 (hS1.env s u h2)
 ·obtain ⟨o', h1, rfl⟩ := hob j o hl
  have hO := hW.ob j o' h1
  cases o' with
  | box cs =>
   obtain ⟨blk, vals, ty', k1, k2, k3, k4, k5⟩ := hO
   refine ⟨blk, vals, ty', k1, k2, by rw [k3]; simp, k4, fun q v hq => ?_⟩
   rw [List.getElem?_map] at hq
   obtain ⟨u, h3, rfl⟩ := Option.map_eq_some_iff.1 hq
   obtain ⟨x, r1, r2⟩ := k5 q u h3
   exact ⟨x, r1, fz_ok hW hl1 r2⟩
  | gone => exact hO
  | row ty' sz' own ys => exact hO
  | mpo kd kvs => exact hO
 ·obtain ⟨o1, h1, rfl⟩ := hob j oj hj
  obtain ⟨o2, h2, rfl⟩ := hob k ok hk
  exact hW.inj j k o1 o2 bj bk h1 (by rw [<- Ob.fz_own]; exact hoj) h2 (by rw [<- Ob.fz_own]; exact hok) hbj hbk heq
 ·obtain ⟨j, o, blk, h1, h2, h3, h4⟩ := hO
  obtain ⟨o', k1, rfl⟩ := hob j o h1
  exact ⟨j, o', blk, k1, by rw [<- Ob.fz_own]; exact h2, h3, h4⟩
end Go.Am
end

section
namespace Go.Am
set_option maxRecDepth 100000
attribute [local irreducible] vc vcIs vcI vcOp vcD vcDp vcDR vcT vcAR bV0 aY0 panD neG ne pv J bH0 bM0 bY0 bd0 evK evsK nthK objK boxK rowK bz0 intK strK aggK fnK ifcK ay0 az0 ldK ldaK iaK srcK stK appK appD b00 pvK bC0 aW0 bL0 bs0 slAV bG0
variable {ts : List Tok} {n : Nat}
abbrev zE : List V := [vI 0, vI 0, vI 0, vS (bS []), vI 0, vS (bS []), .nil, vI 0]
theorem oC0 {d : Nat} (h : d <= 24) : kw0 ts n d = .ok () := by rw [kw0, if_neg (by omega)]
theorem mp0 {d : Nat} (h : ¬ d <= 24) : kw0 ts n d = .bad n 32 := by rw [kw0, if_pos (by omega)]; rfl
set_option maxHeartbeats 1600000 in
theorem mi0 (hE : TEnd ts) (hl : ts.length < 2 ^ 40) (F d : Nat) (hd : d <= 24)
  (IHx : ∀ g, g < F -> ∀ d n, d <= 25 -> n < ts.length -> (b10 ts g d n).live -> J prog ba0 [.bp (.e 0) 0, vI d] (pObs ts n) (· = pAns ts Exq.V (b10 ts g d n)))
  (IHu : ∀ g, g < F -> ∀ d n, d <= 24 -> n < ts.length -> (pUn ts g d n).live -> J prog bF0 [.bp (.e 0) 0, vI d] (pObs ts n) (· = pAns ts Exq.V (pUn ts g d n)))
  (hn : n < ts.length) (hlive : (pUn ts F d n).live) : J prog bF0 [.bp (.e 0) 0, vI d] (pObs ts n) (· = pAns ts Exq.V (pUn ts F d n)) := by
 obtain _ | F := F
 ·rw [pUn] at hlive; exact absurd rfl hlive
 generalize hw : pUn ts (F + 1) d n = R at *
 rw [pUn] at hw
 refine at0 iN0 (by simp [pObs]) ?_
 refine rS4 @eR0.eq_1 @pObs.eq_1 @hpE.eq_1 @hpE.eq_2 ?_
 refine aa0 [.e 0] ?_
 simp
 have hO := a90 hn
 try simp [pObs, ap0, au0] at hO
 refine ab0 12 hO ?_
 refine rS0 ?_
 refine aO0 (fun y : Nat => 2 - y) (fun y => [(15, vI y), (14, vI 2), (13, .arr (.l 13 0) 0 2), (5, .bp (.l 5 0) 0), (4, .bp (.l 4 0) 0), (0, .bp (.e 0) 0), (1, vI d)])
  (fun _ => [(.e 0, .box [.lst (ts.map Tok.cells), vI n]), (.l 13 0, .row 9 1 true [[vS (bS [45])], [vS (bS [33])]]), (.l 5 0, .box (tk ts n).cells), (.l 4 0, .box zE)])
  (fun y => y <= 2 /\ (0 < y -> isT ts n 4 [45] = false) /\ (1 < y -> isT ts n 4 [33] = false)) 0 (by simp) (Wk.subs (by simp) (by simp)) ?_
 rintro y ⟨hy, h1, h2⟩
 have : y = 0 \/ y = 1 \/ y = 2 := by omega
 rcases this with rfl | rfl | rfl
 ·refine rS0 ?_
  rw [aP0 (e := [vS (bS [45])]) rfl]
  refine rS0 ?_
  refine aa0 [.e 0] ?_
  simp
  have hO := aj0 hn hl 4 [45]
  try simp [pObs, ap0, au0] at hO
  refine ab0 22 hO ?_
  cases h : isT ts n 4 [45] with
  | true =>
   have h0 := aw0 hE hn h (by decide)
   rw [h] at hw
   simp only [if_true] at hw
   refine rS0 ?_
   by_cases hd1 : d + 1 <= 24
   ·have hJ := cs0 h0 (d + 1)
    rw [oC0 hd1] at hJ hw
    simp only [LxR.bind] at hJ hw
    refine aa0 [.e 0] ?_
    simp
    have hO := hJ
    try simp [pObs, ap0, au0] at hO
    refine ab0 26 hO ?_
    refine rS0 ?_
    have hlv := hlive
    rw [<- hw] at hlv
    have hJ2 := IHu F (by omega) (d + 1) (n + 1) hd1 h0 (LxR.aI0 hlv).1
    rcases hx : pUn ts F (d + 1) (n + 1) with ⟨x, m⟩ | ⟨a, e⟩
    ·rw [hx] at hJ2 hw
     simp only [pAns, LxR.bind] at hJ2 hw
     subst hw
     refine bl0 [.e 0] ?_
     simp
     have hO := hJ2
     try simp [pObs, ap0, au0] at hO
     refine cE0 32 hO ?_
     refine rS0 ?_
     refine ax0 [] ?_
     rw [pAns, Exq.V, Exq.ac0 (.mk _ _ _ _ _ _ _ _)]
     simp +contextual (maxSteps := 2000000) (disch := omega) [-Int.not_lt, -Int.not_le, -Nat.not_lt, -Nat.not_le, sx, pObs, Exq.kind, Exq.op, Exq.num, Exq.text, Exq.slot, Exq.type, Exq.args, Exq.at_]
    ·rw [hx] at hJ2 hw
     simp only [pAns, LxR.bind] at hJ2 hw
     subst hw
     refine bl0 [.e 0] ?_
     simp
     have hO := hJ2
     try simp [pObs, ap0, au0] at hO
     refine cL0 hO ?_
     refine rS0 ?_
     refine endP ?_
     exact rT3 @pObs.eq_1 @pAns.eq_1 @pAns.eq_2
   ·have hJ := cs0 h0 (d + 1)
    rw [mp0 hd1] at hJ hw
    simp only [LxR.bind] at hJ hw
    subst hw
    refine aa0 [.e 0] ?_
    simp
    have hO := hJ
    try simp [pObs, ap0, au0] at hO
    refine af0 hO ?_
    refine rS0 ?_
    refine endP ?_
    exact rT3 @pObs.eq_1 @pAns.eq_1 @pAns.eq_2
  | false =>
   refine rS0 ?_
   refine .of 1 ⟨by omega, fun q => absurd q (by omega)⟩ (by omega) (Wk.subs (by simp) (by simp))
 ·have h1 := h1 (by omega)
  rw [h1] at hw
  simp only [Bool.false_eq_true, if_false] at hw
  refine rS0 ?_
  rw [aP0 (e := [vS (bS [33])]) rfl]
  refine rS0 ?_
  refine aa0 [.e 0] ?_
  simp
  have hO := aj0 hn hl 4 [33]
  try simp [pObs, ap0, au0] at hO
  refine ab0 22 hO ?_
  cases h : isT ts n 4 [33] with
  | true =>
   have h0 := aw0 hE hn h (by decide)
   rw [h] at hw
   simp only [if_true] at hw
   refine rS0 ?_
   by_cases hd1 : d + 1 <= 24
   ·have hJ := cs0 h0 (d + 1)
    rw [oC0 hd1] at hJ hw
    simp only [LxR.bind] at hJ hw
    refine aa0 [.e 0] ?_
    simp
    have hO := hJ
    try simp [pObs, ap0, au0] at hO
    refine ab0 26 hO ?_
    refine rS0 ?_
    have hlv := hlive
    rw [<- hw] at hlv
    have hJ2 := IHu F (by omega) (d + 1) (n + 1) hd1 h0 (LxR.aI0 hlv).1
    rcases hx : pUn ts F (d + 1) (n + 1) with ⟨x, m⟩ | ⟨a, e⟩
    ·rw [hx] at hJ2 hw
     simp only [pAns, LxR.bind] at hJ2 hw
     subst hw
     refine bl0 [.e 0] ?_
     simp
     have hO := hJ2
     try simp [pObs, ap0, au0] at hO
     refine cE0 32 hO ?_
     refine rS0 ?_
     refine ax0 [] ?_
     rw [pAns, Exq.V, Exq.ac0 (.mk _ _ _ _ _ _ _ _)]
     simp +contextual (maxSteps := 2000000) (disch := omega) [-Int.not_lt, -Int.not_le, -Nat.not_lt, -Nat.not_le, sx, pObs, Exq.kind, Exq.op, Exq.num, Exq.text, Exq.slot, Exq.type, Exq.args, Exq.at_]
    ·rw [hx] at hJ2 hw
     simp only [pAns, LxR.bind] at hJ2 hw
     subst hw
     refine bl0 [.e 0] ?_
     simp
     have hO := hJ2
     try simp [pObs, ap0, au0] at hO
     refine cL0 hO ?_
     refine rS0 ?_
     refine endP ?_
     exact rT3 @pObs.eq_1 @pAns.eq_1 @pAns.eq_2
   ·have hJ := cs0 h0 (d + 1)
    rw [mp0 hd1] at hJ hw
    simp only [LxR.bind] at hJ hw
    subst hw
    refine aa0 [.e 0] ?_
    simp
    have hO := hJ
    try simp [pObs, ap0, au0] at hO
    refine af0 hO ?_
    refine rS0 ?_
    refine endP ?_
    exact rT3 @pObs.eq_1 @pAns.eq_1 @pAns.eq_2
  | false =>
   refine rS0 ?_
   refine .of 2 ⟨by omega, fun _ => h1⟩ (by omega) (Wk.subs (by simp) (by simp))
 ·have h1 := h1 (by omega)
  have h2 := h2 (by omega)
  rw [h1, h2] at hw
  simp only [Bool.false_eq_true, if_false] at hw
  have hlv := hlive
  rw [<- hw] at hlv
  refine rS0 ?_
  have hJ := lc0 hE hl F d hd (fun g hg n => IHx g (by omega) (d + 1) n (by omega)) hn (LxR.aI0 hlv).1
  rcases hx : jX0 ts F d n with ⟨x, m⟩ | ⟨a, e⟩
  rotate_left
  ·rw [hx] at hJ hw
   simp only [pAns, LxR.bind] at hJ hw
   subst hw
   refine aa0 [.e 0] ?_
   simp
   have hO := hJ
   try simp [pObs, ap0, au0] at hO
   refine af0 hO ?_
   refine rS0 ?_
   refine endP ?_
   exact rT3 @pObs.eq_1 @pAns.eq_1 @pAns.eq_2
  have q1 := (ks0 hE F).prim hn hx
  rw [hx] at hJ hw
  simp only [pAns, LxR.bind] at hJ hw
  refine aa0 [.e 0] ?_
  simp
  have hO := hJ
  try simp [pObs, ap0, au0] at hO
  refine ab0 40 hO ?_
  refine rS0 ?_
  refine aO0 (fun y : Nat × Nat × Exq => y.1) (fun y => [(8, .bp (.l 8 0) 0), (4, .bp (.l 4 0) 0), (0, .bp (.e 0) 0), (1, vI d)])
   (fun y => [(.e 0, .box [.lst (ts.map Tok.cells), vI y.2.1]), (.l 8 0, .box y.2.2.cells), (.l 4 0, .box zE)])
   (fun y => y.1 <= F /\ y.2.1 < ts.length /\ lD0 ts y.1 d y.2.2 y.2.1 = R) (F, m, x) ⟨Nat.le_refl _, q1.2, hw⟩ (Wk.subs (by simp) (by simp)) ?_
  rintro ⟨g, n', out⟩ ⟨hg, hn', hw⟩
  dsimp only at hg hn' hw
  obtain _ | g := g
  ·rw [lD0] at hw; subst hw; exact absurd rfl hlive
  rw [lD0] at hw
  refine rS0 ?_
  refine aa0 [.e 0] ?_
  simp
  have hO := lb0 hn' 4 [91]
  try simp [pObs, ap0, au0] at hO
  refine ab0 42 hO ?_
  cases h3 : isT ts n' 4 [91] with
  | false =>
   rw [h3] at hw
   simp only [Bool.false_eq_true, if_false] at hw
   subst hw
   refine rS0 ?_
   refine ax0 [] ?_
   exact rT3 @pObs.eq_1 @pAns.eq_1 @pAns.eq_2
  | true =>
   have h0 := aw0 hE hn' h3 (by decide)
   rw [h3] at hw
   simp only [if_true] at hw
   have hlv := hlive
   rw [<- hw] at hlv
   have hJ := IHx g (by omega) (d + 1) (n' + 1) (by omega) h0 (LxR.aI0 hlv).1
   refine rS0 ?_
   refine aa0 [.e 0] ?_
   simp
   have hO := a90 hn'
   try simp [pObs, ap0, au0] at hO
   refine ab0 44 hO ?_
   refine rS0 ?_
   rcases hx2 : b10 ts g (d + 1) (n' + 1) with ⟨p, m2⟩ | ⟨a, e⟩
   ·rw [hx2] at hJ hw
    simp only [pAns, LxR.bind] at hJ hw
    have q2 := (ks0 hE g).ex h0 hx2
    refine aa0 [.e 0] ?_
    simp
    have hO := hJ
    try simp [pObs, ap0, au0] at hO
    refine ab0 56 hO ?_
    refine rS0 ?_
    have hJ2 := aq0 q2.2 hl [93]
    rcases hm : bi0 ts m2 [93] with m3 | ⟨a, e⟩
    ·rw [hm] at hJ2 hw
     simp only [ar0] at hJ2 hw
     have q3 := al0 hE q2.2 hm
     refine aa0 [.e 0] ?_
     simp
     have hO := hJ2
     try simp [pObs, ap0, au0] at hO
     refine ab0 58 hO ?_
     refine rS0 ?_
     refine .of (g, m3, .mk 12 0 0 (bS []) 0 (bS []) [out, p] (tk ts n').at_) ⟨by dsimp only; omega, q3.2, hw⟩ (by dsimp only; omega) (Wk.frz (.l 61 0) rfl (by simp [V.fz]) ?_)
     rw [Exq.ac0 (.mk _ _ _ _ _ _ _ _)]
     simp [Ob.fz, V.fz, Exq.kind, Exq.op, Exq.num, Exq.text, Exq.slot, Exq.type, Exq.args, Exq.at_]
    ·rw [hm] at hJ2 hw
     simp only [ar0] at hJ2 hw
     subst hw
     refine aa0 [.e 0] ?_
     simp
     have hO := hJ2
     try simp [pObs, ap0, au0] at hO
     refine af0 hO ?_
     refine rS0 ?_
     refine endP ?_
     exact rT3 @pObs.eq_1 @pAns.eq_1 @pAns.eq_2
   ·rw [hx2] at hJ hw
    simp only [pAns, LxR.bind] at hJ hw
    subst hw
    refine aa0 [.e 0] ?_
    simp
    have hO := hJ
    try simp [pObs, ap0, au0] at hO
    refine af0 hO ?_
    refine rS0 ?_
    refine endP ?_
    exact rT3 @pObs.eq_1 @pAns.eq_1 @pAns.eq_2
variable {ts : List Tok} {n : Nat}
theorem qu0 (l : List Bs) (s : ByteArray) (h : l.contains (sB s) = true) : jl0 (l.map bS) s = (l.idxOf (sB s) : Nat) := by
 rw [List.contains_iff_mem] at h
 have hlt : l.idxOf (sB s) < l.length := List.idxOf_lt_length_iff.2 h
 have hge : l[l.idxOf (sB s)] = sB s := List.getElem_idxOf hlt
 have : (l.map bS).findIdx? (fun x => decide (s = x)) = some (l.idxOf (sB s)) := by
  rw [List.findIdx?_eq_some_iff_getElem]
  refine ⟨by simpa using hlt, by simp [hge], fun j hj => ?_⟩
  have hne := List.not_of_lt_findIdx (p := (· == sB s)) (xs := l) hj
  simp only [List.getElem_map, decide_eq_true_eq]
  intro e
  have h3 : sB s = l[j] := congrArg sB e
  have h4 : (l[j] == sB s) = true := by rw [beq_iff_eq]; exact h3.symm
  rw [h4] at hne; cases hne
 rw [jl0, this]
theorem level_op {l : Nat} (hl5 : l < 5) {b : Bs} (h : (cr0[l]'hl5).contains b = true) : pOps.contains b = true := by
 rw [List.contains_iff_mem] at h ⊢
 exact List.mem_flatten.2 ⟨_, List.getElem_mem hl5, h⟩
theorem n50 {l : Nat} (hl5 : l < 5) {t : Tok} (hk : t.kind = 4) : ek0 l t = (cr0[l]'hl5).contains (sB t.text) := by
 unfold ek0
 rw [hk, List.getD_eq_getElem?_getD, List.getElem?_eq_getElem hl5]
 simp
theorem n60 {l : Nat} {t : Tok} (hk : ¬ t.kind = 4) : ek0 l t = false := by
 unfold ek0
 simp [hk]
theorem oZ0 : ∀ x ∈ cr0, x.length < 2 ^ 40 := by decide
theorem kc0 {l : Nat} (hl5 : l < 5) (s : ByteArray) : Ret prog bk0 [.lst ((cr0[l]'hl5).map fun m => [vS (bS m)]), vS s] (vB ((cr0[l]'hl5).contains (sB s))) := by
 have h := gY0 ((cr0[l]'hl5).map bS) s (by rw [List.length_map]; exact oZ0 _ (List.getElem_mem _))
 rw [mJ0, List.map_map] at h
 exact h
theorem ops_Index (s : ByteArray) (h : pOps.contains (sB s) = true) : Ret prog bA0 [.lst (pOps.map aQ0), vS s] (vI (pOps.idxOf (sB s) : Nat)) := by
 have h2 := jm0 (pOps.map bS) s (by decide)
 rw [qu0 _ _ h, List.map_map] at h2
 exact h2
set_option maxHeartbeats 1600000 in
theorem lG0 (hE : TEnd ts) (hl : ts.length < 2 ^ 40) (F l d : Nat) (hl5 : l <= 5) (hd : d <= 24)
  (IHb : ∀ g, g < F -> ∀ l n, l <= 5 -> n < ts.length -> (pBin ts g l d n).live -> J prog bp0 [.bp (.e 0) 0, vI l, vI d] (pObs ts n) (· = pAns ts Exq.V (pBin ts g l d n)))
  (IHu : ∀ g, g < F -> ∀ n, n < ts.length -> (pUn ts g d n).live -> J prog bF0 [.bp (.e 0) 0, vI d] (pObs ts n) (· = pAns ts Exq.V (pUn ts g d n)))
  (hn : n < ts.length) (hlive : (pBin ts F l d n).live) : J prog bp0 [.bp (.e 0) 0, vI l, vI d] (pObs ts n) (· = pAns ts Exq.V (pBin ts F l d n)) := by
 obtain _ | F := F
 ·rw [pBin] at hlive; exact absurd rfl hlive
 generalize hw : pBin ts (F + 1) l d n = R at *
 rw [pBin] at hw
 refine at0 ix0 (by simp [pObs]) ?_
 refine rS4 @es0.eq_1 @pObs.eq_1 @hpE.eq_1 @hpE.eq_2 ?_
 refine ak0 ?_; simp; refine ah0 (dh0) (by simp) ?_
 by_cases h5 : l = 5
 ·subst h5
  rw [if_pos rfl] at hw
  subst hw
  have hJ := IHu F (by omega) n hn hlive
  rcases hx : pUn ts F d n with ⟨x, m⟩ | ⟨a, e⟩
  ·rw [hx] at hJ
   simp only [pAns] at hJ
   refine rS0 ?_
   refine aa0 [.e 0] ?_
   simp
   have hO := hJ
   try simp [pObs, ap0, au0] at hO
   refine ab0 17 hO ?_
   refine rS0 ?_
   refine ax0 [] ?_
   exact rT3 @pObs.eq_1 @pAns.eq_1 @pAns.eq_2
  ·rw [hx] at hJ
   simp only [pAns] at hJ
   refine rS0 ?_
   refine aa0 [.e 0] ?_
   simp
   have hO := hJ
   try simp [pObs, ap0, au0] at hO
   refine af0 hO ?_
   refine rS0 ?_
   refine endP ?_
   exact rT3 @pObs.eq_1 @pAns.eq_1 @pAns.eq_2
 rw [if_neg h5] at hw
 have hlt5 : l < 5 := by omega
 have h5' : ¬ (l : Int) = 5 := by omega
 have hlv := hlive
 rw [<- hw] at hlv
 have hJ := IHb F (by omega) (l + 1) n (by omega) hn (LxR.aI0 hlv).1
 refine rS1 h5' ?_
 rcases hx : pBin ts F (l + 1) d n with ⟨x, m⟩ | ⟨a, e⟩
 rotate_left
 ·rw [hx] at hJ hw
  simp only [pAns, LxR.bind] at hJ hw
  subst hw
  refine aa0 [.e 0] ?_
  simp
  have hO := hJ
  try simp [pObs, ap0, au0] at hO
  refine af0 hO ?_
  refine rS0 ?_
  refine endP ?_
  exact rT3 @pObs.eq_1 @pAns.eq_1 @pAns.eq_2
 have q1 := (ks0 hE F).bin hn hx
 rw [hx] at hJ hw
 simp only [pAns, LxR.bind] at hJ hw
 refine aa0 [.e 0] ?_
 simp
 have hO := hJ
 try simp [pObs, ap0, au0] at hO
 refine ab0 22 hO ?_
 refine rS0 ?_
 refine aO0 (fun y : Nat × Nat × Exq => y.1) (fun y => [(7, .bp (.l 7 0) 0), (6, .bp (.l 6 0) 0), (0, .bp (.e 0) 0), (1, vI l), (2, vI d)])
  (fun y => [(.e 0, .box [.lst (ts.map Tok.cells), vI y.2.1]), (.l 7 0, .box y.2.2.cells), (.l 6 0, .box zE)])
  (fun y => y.1 <= F /\ y.2.1 < ts.length /\ lC0 ts y.1 l d y.2.2 y.2.1 = R) (F, m, x) ⟨Nat.le_refl _, q1.2, hw⟩ (Wk.subs (by simp) (by simp)) ?_
 rintro ⟨g, n', out⟩ ⟨hg, hn', hw⟩
 dsimp only at hg hn' hw
 obtain _ | g := g
 ·rw [lC0] at hw; subst hw; exact absurd rfl hlive
 rw [lC0] at hw
 refine rS0 ?_
 refine aa0 [.e 0] ?_
 simp
 have hO := a90 hn'
 try simp [pObs, ap0, au0] at hO
 refine ab0 24 hO ?_
 have done : ek0 l (tk ts n') = false -> R = .ok (out, n') := fun h => by rw [h] at hw; simpa using hw.symm
 by_cases hk : (tk ts n').kind = 4
 rotate_left
 ·have hR := done (n60 hk)
  rw [hR]
  refine rS1 hk ?_
  refine ax0 [] ?_
  exact rT3 @pObs.eq_1 @pAns.eq_1 @pAns.eq_2
 have hin := n50 hlt5 hk
 refine rS1 hk ?_
 refine dd0 ?_; simp; refine ah0 (dh0) (by simp) ?_
 refine rS0 ?_
 rw [n70 hlt5]
 refine rS0 ?_
 refine ak0 ?_; simp; refine ah0 (kc0 hlt5 (tk ts n').text) (by simp) ?_
 rw [<- hin]
 cases hi : ek0 l (tk ts n') with
 | false =>
  rw [done hi]
  refine rS0 ?_
  refine ax0 [] ?_
  exact rT3 @pObs.eq_1 @pAns.eq_1 @pAns.eq_2
 | true =>
 have hop : pOps.contains (sB (tk ts n').text) = true := level_op hlt5 (by rw [<- hin]; exact hi)
 rw [hi] at hw
 simp only [if_true] at hw
 have h0 := hE n' hn' (by rw [hk]; decide)
 have hlv := hlive
 rw [<- hw] at hlv
 have hJ2 := IHb g (by omega) (l + 1) (n' + 1) (by omega) h0 (LxR.aI0 hlv).1
 refine rS0 ?_
 rcases hx2 : pBin ts g (l + 1) d (n' + 1) with ⟨p, m2⟩ | ⟨a, e⟩
 rotate_left
 ·rw [hx2] at hJ2 hw
  simp only [pAns, LxR.bind] at hJ2 hw
  subst hw
  refine aa0 [.e 0] ?_
  simp
  have hO := hJ2
  try simp [pObs, ap0, au0] at hO
  refine af0 hO ?_
  refine rS0 ?_
  refine endP ?_
  exact rT3 @pObs.eq_1 @pAns.eq_1 @pAns.eq_2
 rw [hx2] at hJ2 hw
 simp only [pAns, LxR.bind] at hJ2 hw
 have q2 := (ks0 hE g).bin h0 hx2
 refine aa0 [.e 0] ?_
 simp
 have hO := hJ2
 try simp [pObs, ap0, au0] at hO
 refine ab0 49 hO ?_
 refine rS0 ?_
 refine dd0 ?_; simp; refine ah0 (jY0) (by simp) ?_
 refine rS0 ?_
 refine dd0 ?_; simp; refine ah0 (ops_Index (tk ts n').text hop) (by simp) ?_
 have hq : pOps.idxOf (sB (tk ts n').text) < 13 := List.idxOf_lt_length_iff.2 (List.contains_iff_mem.1 hop)
 generalize pOps.idxOf (sB (tk ts n').text) = q at *
 by_cases h2 : l = 2
 ·subst h2
  rw [if_pos rfl] at hw
  refine rS0 ?_
  refine aa0 [.e 0] ?_
  simp
  have hO := a90 q2.2
  try simp [pObs, ap0, au0] at hO
  refine ab0 64 hO ?_
  have ends : ek0 2 (tk ts m2) = false -> R = .ok (.mk 15 ((q : Nat) + 1) 0 (bS []) 0 (bS []) [out, p] (tk ts n').at_, m2) := fun h => by rw [h] at hw; simpa using hw.symm
  by_cases hk2 : (tk ts m2).kind = 4
  rotate_left
  ·rw [ends (n60 hk2)]
   refine rS1 hk2 ?_
   refine ax0 [] ?_
   rw [pAns, Exq.V, Exq.ac0 (.mk _ _ _ _ _ _ _ _)]
   simp +contextual (maxSteps := 2000000) (disch := omega) [-Int.not_lt, -Int.not_le, -Nat.not_lt, -Nat.not_le, sx, pObs, Exq.kind, Exq.op, Exq.num, Exq.text, Exq.slot, Exq.type, Exq.args, Exq.at_]
  have hin2 := n50 hlt5 hk2
  refine rS1 hk2 ?_
  refine dd0 ?_; simp; refine ah0 (dh0) (by simp) ?_
  refine rS0 ?_
  rw [n70 hlt5]
  refine rS0 ?_
  refine ak0 ?_; simp; refine ah0 (kc0 hlt5 (tk ts m2).text) (by simp) ?_
  rw [<- hin2]
  cases hi2 : ek0 2 (tk ts m2) with
  | false =>
   rw [ends hi2]
   refine rS0 ?_
   refine ax0 [] ?_
   rw [pAns, Exq.V, Exq.ac0 (.mk _ _ _ _ _ _ _ _)]
   simp +contextual (maxSteps := 2000000) (disch := omega) [-Int.not_lt, -Int.not_le, -Nat.not_lt, -Nat.not_le, sx, pObs, Exq.kind, Exq.op, Exq.num, Exq.text, Exq.slot, Exq.type, Exq.args, Exq.at_]
  | true =>
   rw [hi2] at hw
   simp only [if_true, e50] at hw
   subst hw
   refine rS0 ?_
   refine aa0 [.e 0] ?_
   simp
   have hO := aX0 q2.2 31
   try simp [pObs, ap0, au0] at hO
   refine af0 hO ?_
   refine rS0 ?_
   refine endP ?_
   exact rT3 @pObs.eq_1 @pAns.eq_1 @pAns.eq_2
 ·rw [if_neg h2] at hw
  have h2' : ¬ (l : Int) = 2 := by omega
  refine rS1 h2' ?_
  refine .of (g, m2, .mk 15 ((q : Nat) + 1) 0 (bS []) 0 (bS []) [out, p] (tk ts n').at_) ⟨by dsimp only; omega, q2.2, hw⟩ (by dsimp only; omega) (Wk.frz (.l 57 0) rfl (by simp [V.fz]) ?_)
  rw [Exq.ac0 (.mk _ _ _ _ _ _ _ _)]
  simp [Ob.fz, V.fz, Exq.kind, Exq.op, Exq.num, Exq.text, Exq.slot, Exq.type, Exq.args, Exq.at_]
variable {ts : List Tok}
structure DoesX (ts : List Tok) (f : Nat) : Prop where
 ex : ∀ d n, d <= 25 -> n < ts.length -> (b10 ts f d n).live -> J prog ba0 [.bp (.e 0) 0, vI d] (pObs ts n) (· = pAns ts Exq.V (b10 ts f d n))
 bin : ∀ l d n, l <= 5 -> d <= 24 -> n < ts.length -> (pBin ts f l d n).live -> J prog bp0 [.bp (.e 0) 0, vI l, vI d] (pObs ts n) (· = pAns ts Exq.V (pBin ts f l d n))
 un : ∀ d n, d <= 24 -> n < ts.length -> (pUn ts f d n).live -> J prog bF0 [.bp (.e 0) 0, vI d] (pObs ts n) (· = pAns ts Exq.V (pUn ts f d n))
theorem expr_step {F d n : Nat} (hd : d <= 25) (hn : n < ts.length)
  (IHb : ∀ g, g < F -> ∀ l d n, l <= 5 -> d <= 24 -> n < ts.length -> (pBin ts g l d n).live -> J prog bp0 [.bp (.e 0) 0, vI l, vI d] (pObs ts n) (· = pAns ts Exq.V (pBin ts g l d n)))
  (hlive : (b10 ts F d n).live) : J prog ba0 [.bp (.e 0) 0, vI d] (pObs ts n) (· = pAns ts Exq.V (b10 ts F d n)) := by
 obtain _ | F := F
 ·rw [b10] at hlive; exact absurd rfl hlive
 generalize hw : b10 ts (F + 1) d n = R at *
 rw [b10] at hw
 have hJ := cs0 hn d
 refine at0 jL0 (by simp [pObs]) ?_
 refine rS4 @fo0.eq_1 @pObs.eq_1 @hpE.eq_1 @hpE.eq_2 ?_
 by_cases h : d <= 24
 ·rw [oC0 h] at hJ hw
  simp only [LxR.bind] at hJ hw
  subst hw
  have hJ2 := IHb F (by omega) 0 d n (by omega) h hn hlive
  refine aa0 [.e 0] ?_
  simp
  have hO := hJ
  try simp [pObs, ap0, au0] at hO
  refine ab0 7 hO ?_
  refine rS0 ?_
  rcases hx : pBin ts F 0 d n with ⟨x, m⟩ | ⟨a, e⟩
  ·rw [hx] at hJ2
   simp only [pAns] at hJ2
   refine aa0 [.e 0] ?_
   simp
   have hO := hJ2
   try simp [pObs, ap0, au0] at hO
   refine ab0 10 hO ?_
   refine rS0 ?_
   refine ax0 [] ?_
   exact rT3 @pObs.eq_1 @pAns.eq_1 @pAns.eq_2
  ·rw [hx] at hJ2
   simp only [pAns] at hJ2
   refine aa0 [.e 0] ?_
   simp
   have hO := hJ2
   try simp [pObs, ap0, au0] at hO
   refine af0 hO ?_
   refine rS0 ?_
   refine endP ?_
   exact rT3 @pObs.eq_1 @pAns.eq_1 @pAns.eq_2
 ·rw [mp0 h] at hJ hw
  simp only [LxR.bind] at hJ hw
  subst hw
  refine aa0 [.e 0] ?_
  simp
  have hO := hJ
  try simp [pObs, ap0, au0] at hO
  refine af0 hO ?_
  refine rS0 ?_
  refine endP ?_
  exact rT3 @pObs.eq_1 @pAns.eq_1 @pAns.eq_2
theorem doesX (hE : TEnd ts) (hl : ts.length < 2 ^ 40) (f : Nat) : DoesX ts f := by
 induction f using Nat.strongRecOn with
 | ind f ih =>
  refine ⟨fun d n hd hn h => expr_step hd hn (fun g hg l d n => (ih g hg).bin l d n) h,
   fun l d n hl5 hd hn h => lG0 hE hl f l d hl5 hd (fun g hg l n h1 h2 => (ih g hg).bin l d n h1 hd h2) (fun g hg n h2 => (ih g hg).un d n hd h2) hn h,
   fun d n hd hn h => mi0 hE hl f d hd (fun g hg => (ih g hg).ex) (fun g hg => (ih g hg).un) hn h⟩
variable {ts : List Tok} {n : Nat}
structure GoesS (ts : List Tok) (f : Nat) : Prop where
 block : ∀ {d n : Nat} {a : List Stm} {m : Nat}, n < ts.length -> ca0 ts f d n = .ok (a, m) -> n < m /\ m < ts.length
 stms : ∀ {d : Nat} {out : List Stm} {n : Nat} {a : List Stm} {m : Nat}, n < ts.length -> lF0 ts f d out n = .ok (a, m) -> n < m /\ m < ts.length
 stm : ∀ {d n : Nat} {a : Stm} {m : Nat}, n < ts.length -> pStm ts f d n = .ok (a, m) -> n < m /\ m < ts.length
theorem mY0 (hE : TEnd ts) : ∀ f, GoesS ts f
 | 0 => ⟨fun _ h => by simp [ca0] at h, fun _ h => by simp [lF0] at h, fun _ h => by simp [pStm] at h⟩
 | f + 1 => by
  have ih := mY0 hE f
  have ix := ks0 hE f
  refine ⟨fun hn h => ?_, fun hn h => ?_, fun hn h => ?_⟩
  ·rw [ca0] at h
   obtain ⟨_, _, h⟩ := ag0 h
   obtain ⟨n1, e1, h⟩ := ag0 h
   have q1 := al0 hE hn e1
   have q2 := ih.stms q1.2 h
   omega
  ·rw [lF0] at h
   split at h
   ·rename_i hi
    have h0 := aw0 hE hn hi (by decide)
    injection h with h; injection h with h1 h2; subst h2; omega
   ·obtain ⟨⟨s, n1⟩, e1, h⟩ := ag0 h
    have q1 := ih.stm hn e1
    have q2 := ih.stms q1.2 h
    dsimp only at *; omega
  ·rw [pStm] at h
   split at h
   ·rename_i hi
    have h0 := aw0 hE hn hi (by decide)
    obtain ⟨⟨t, n1⟩, e1, h⟩ := ag0 h
    obtain ⟨n2, e2, h⟩ := ag0 h
    obtain ⟨⟨x, n3⟩, e3, h⟩ := ag0 h
    obtain ⟨n4, e4, h⟩ := ag0 h
    have q1 := a10 hE h0 e1
    have q2 := al0 hE q1.2 e2
    have q3 := ix.ex q2.2 e3
    have q4 := al0 hE q3.2 e4
    injection h with h; injection h with h1 h2; subst h2
    dsimp only at *; omega
   split at h
   ·rename_i hi
    have h0 := aw0 hE hn hi (by decide)
    obtain ⟨⟨t, n1⟩, e1, h⟩ := ag0 h
    have q1 := a10 hE h0 e1
    split at h
    ·rename_i hi2
     have h00 := aw0 hE q1.2 hi2 (by decide)
     obtain ⟨⟨x, n3⟩, e3, h⟩ := ag0 h
     obtain ⟨n4, e4, h⟩ := ag0 h
     obtain ⟨n5, e5, h⟩ := ag0 h
     obtain ⟨⟨y, n6⟩, e6, h⟩ := ag0 h
     obtain ⟨n7, e7, h⟩ := ag0 h
     have q3 := ix.ex h00 e3
     have q4 := al0 hE q3.2 e4
     have q5 := al0 hE q4.2 e5
     have q6 := ix.ex q5.2 e6
     have q7 := al0 hE q6.2 e7
     injection h with h; injection h with h1 h2; subst h2
     dsimp only at *; omega
    ·obtain ⟨n2, e2, h⟩ := ag0 h
     obtain ⟨⟨x, n3⟩, e3, h⟩ := ag0 h
     obtain ⟨n4, e4, h⟩ := ag0 h
     have q2 := al0 hE q1.2 e2
     have q3 := ix.ex q2.2 e3
     have q4 := al0 hE q3.2 e4
     injection h with h; injection h with h1 h2; subst h2
     dsimp only at *; omega
   split at h
   ·rename_i hi
    have h0 := aw0 hE hn hi (by decide)
    obtain ⟨⟨t, n1⟩, e1, h⟩ := ag0 h
    obtain ⟨n2, e2, h⟩ := ag0 h
    obtain ⟨⟨x, n3⟩, e3, h⟩ := ag0 h
    obtain ⟨n4, e4, h⟩ := ag0 h
    obtain ⟨n5, e5, h⟩ := ag0 h
    have q1 := a10 hE h0 e1
    have q2 := al0 hE q1.2 e2
    have q3 := ix.ex q2.2 e3
    have q4 := al0 hE q3.2 e4
    have q5 := al0 hE q4.2 e5
    injection h with h; injection h with h1 h2; subst h2
    dsimp only at *; omega
   split at h
   ·rename_i hi
    have h0 := aw0 hE hn hi (by decide)
    obtain ⟨⟨x, n1⟩, e1, h⟩ := ag0 h
    obtain ⟨⟨b, n2⟩, e2, h⟩ := ag0 h
    have q1 := ix.ex h0 e1
    have q2 := ih.block q1.2 e2
    split at h
    ·rename_i hi2
     have h00 := aw0 hE q2.2 hi2 (by decide)
     obtain ⟨⟨c, n3⟩, e3, h⟩ := ag0 h
     have q3 := ih.block h00 e3
     injection h with h; injection h with h1 h2; subst h2
     dsimp only at *; omega
    ·injection h with h; injection h with h1 h2; subst h2
     dsimp only at *; omega
   split at h
   ·rename_i hi
    have h0 := aw0 hE hn hi (by decide)
    obtain ⟨⟨t, n1⟩, e1, h⟩ := ag0 h
    obtain ⟨n2, e2, h⟩ := ag0 h
    obtain ⟨⟨x, n3⟩, e3, h⟩ := ag0 h
    obtain ⟨⟨b, n4⟩, e4, h⟩ := ag0 h
    have q1 := a10 hE h0 e1
    have q2 := k80 hE q1.2 e2
    have q3 := ix.ex q2.2 e3
    have q4 := ih.block q3.2 e4
    injection h with h; injection h with h1 h2; subst h2
    dsimp only at *; omega
   split at h
   ·rename_i hi
    have h0 := aw0 hE hn hi (by decide)
    obtain ⟨⟨x, n3⟩, e3, h⟩ := ag0 h
    obtain ⟨n4, e4, h⟩ := ag0 h
    have q3 := ix.ex h0 e3
    have q4 := al0 hE q3.2 e4
    injection h with h; injection h with h1 h2; subst h2
    dsimp only at *; omega
   ·cases h
def aK0 (kind : Int) (name : ByteArray) (e body els : V) (at_ : Int) : Ob := .box [vI kind, vS name, vI 0, vB false, vI 0, e, body, els, vI at_]
def bf0 (ts : List Tok) (n : Int) (kind : Int) (name : ByteArray) (at_ : Int) : List Ob :=
 [.box [.bp (.e 2) 0], aK0 kind name .nil .nil .nil at_, .box [.lst (ts.map Tok.cells), vI n]]
theorem fN0 (hl : ts.length < 2 ^ 40) (hn : n < ts.length) (k : Int) (at_ : Int) :
  J prog dj0 [vI k, .bp (.e 0) 0, .bp (.e 1) 0] (bf0 ts n 0 (bS []) at_) (fun r => r = match dA0 ts n with
   | .ok (t, m) => .ret (.tup []) (bf0 ts m k t.text at_)
   | .bad a e => .pan (iX0 ts a e) (bf0 ts a 0 (bS []) at_)) := by
 have hJ := eo0 hn hl
 refine at0 gr0 (by simp [bf0]) ?_
 refine rS5 @c00.eq_1 @bf0.eq_1 @aK0.eq_1 @hpE.eq_1 @hpE.eq_2 ?_
 rcases hx : dA0 ts n with ⟨t, m⟩ | ⟨a, e⟩
 ·rw [hx] at hJ
  simp only [pAns] at hJ
  refine aa0 [.e 2] ?_
  simp
  have hO := hJ
  try simp [pObs, bf0, aK0] at hO
  refine ab0 6 hO ?_
  refine rS0 ?_
  refine bX0 [] ?_
  exact rT2 @bf0.eq_1 @aK0.eq_1
 ·rw [hx] at hJ
  simp only [pAns] at hJ
  refine aa0 [.e 2] ?_
  simp
  have hO := hJ
  try simp [pObs, bf0, aK0] at hO
  refine af0 hO ?_
  refine rS0 ?_
  refine endP ?_
  exact rT2 @bf0.eq_1 @aK0.eq_1
def optV : Option (List (List V)) -> V
 | none => .nil
 | some l => .lst l
def pVal (ts : List Tok) (f d : Nat) (mark : Bs) (n : Nat) : PR Exq := (b10 ts f (d + 1) n).bind fun p => if mark = [] then .ok p else (bi0 ts p.2 mark).bind fun m => .ok (p.1, m)
def aJ0 (ts : List Tok) (n : Int) (kind : Int) (name : ByteArray) (e : V) (at_ : Int) (d : Nat) : List Ob :=
 [aK0 kind name e .nil .nil at_, .box [.bp (.e 3) 0], .box [vI d], .box [.lst (ts.map Tok.cells), vI n]]
theorem cB0 (hE : TEnd ts) (hl : ts.length < 2 ^ 40) (hn : n < ts.length) (f d : Nat) (hd : d <= 24) (mark : Bs) (kind : Int) (name : ByteArray) (at_ : Int) (hlive : (pVal ts f d mark n).live) :
  J prog bZ0 [vS (bS mark), .bp (.e 0) 0, .bp (.e 1) 0, .bp (.e 2) 0] (aJ0 ts n kind name .nil at_ d) (fun r => match pVal ts f d mark n with
   | .ok (x, m) => r = .ret (.tup []) (aJ0 ts m kind name (.arr (.e 4) 0 1) at_ d ++ [.row dP0 8 true [x.cells]])
   | .bad a e => ∃ y, r = .pan (iX0 ts a e) (aJ0 ts a kind name (optV y) at_ d)) := by
 generalize hw : pVal ts f d mark n = R at *
 unfold pVal at hw
 have hlv := hlive
 rw [<- hw] at hlv
 have hJ := (doesX hE hl f).ex (d + 1) n (by omega) hn (LxR.aI0 hlv).1
 refine at0 c40 (by simp [aJ0]) ?_
 refine rS5 @bQ0.eq_1 @aJ0.eq_1 @aK0.eq_1 @hpE.eq_1 @hpE.eq_2 ?_
 rcases hx : b10 ts f (d + 1) n with ⟨x, m⟩ | ⟨a, e⟩
 ·rw [hx] at hJ hw
  simp only [pAns, LxR.bind] at hJ hw
  have q1 := (ks0 hE f).ex hn hx
  refine bl0 [.e 3] ?_
  simp
  have hO := hJ
  try simp [pObs, bf0, aK0, aJ0] at hO
  refine cE0 10 hO ?_
  refine rS0 ?_
  rw [aP0 (e := [vI 0, vI 0, vI 0, vS (bS []), vI 0, vS (bS []), .lst [], vI 0]) rfl]
  refine rS1 @kB0 ?_
  by_cases hm : mark = []
  ·subst hm
   rw [if_pos rfl] at hw
   subst hw
   refine rS0 ?_
   refine bX0 [.l 13 0] ?_
   exact rT2 @aJ0.eq_1 @aK0.eq_1
  ·rw [if_neg hm] at hw
   have hm' : ¬ bS mark = bS [] := fun h => hm (congrArg sB h)
   have hm2 : ¬ bS mark = ⟨⟨[]⟩⟩ := hm'
   refine rS1 hm ?_
   have hJ2 := aq0 q1.2 hl mark
   rcases hx2 : bi0 ts m mark with m2 | ⟨a, e⟩
   ·rw [hx2] at hJ2 hw
    simp only [ar0, LxR.bind] at hJ2 hw
    subst hw
    refine aa0 [.e 3] ?_
    simp
    have hO := hJ2
    try simp [pObs, bf0, aK0, aJ0] at hO
    refine ab0 20 hO ?_
    refine rS0 ?_
    refine bX0 [.l 13 0] ?_
    exact rT2 @aJ0.eq_1 @aK0.eq_1
   ·rw [hx2] at hJ2 hw
    simp only [ar0, LxR.bind] at hJ2 hw
    subst hw
    refine aa0 [.e 3] ?_
    simp
    have hO := hJ2
    try simp [pObs, bf0, aK0, aJ0] at hO
    refine af0 hO ?_
    refine rS0 ?_
    refine endP ?_
    refine rS2 @aJ0.eq_1 @aK0.eq_1 ?_
    exact ⟨some [x.cells], rfl⟩
 ·rw [hx] at hJ hw
  simp only [pAns, LxR.bind] at hJ hw
  subst hw
  refine bl0 [.e 3] ?_
  simp
  have hO := hJ
  try simp [pObs, bf0, aK0, aJ0] at hO
  refine cL0 hO ?_
  refine rS0 ?_
  refine endP ?_
  refine rS2 @aJ0.eq_1 @aK0.eq_1 ?_
  exact ⟨none, rfl⟩
variable {ts : List Tok} {n : Nat}
theorem bind_assoc {α β γ : Type} (r : LxR α) (f : α -> LxR β) (g : β -> LxR γ) : (r.bind f).bind g = r.bind fun a => (f a).bind g := by cases r <;> rfl
theorem bind_okk {α β : Type} (a : α) (f : α -> LxR β) : (LxR.ok a).bind f = f a := rfl
theorem bind_ok_r {α : Type} (r : LxR α) : r.bind .ok = r := by cases r <;> rfl
theorem iY0 (hE : TEnd ts) (hn : n < ts.length) {f d : Nat} {mark : Bs} {x : Exq} {m : Nat} (h : pVal ts f d mark n = .ok (x, m)) : n < m /\ m < ts.length := by
 unfold pVal at h
 obtain ⟨⟨y, n1⟩, e1, h⟩ := ag0 h
 have q1 := (ks0 hE f).ex hn e1
 split at h
 ·injection h with h; injection h with h1 h2; subst h2; exact q1
 ·obtain ⟨n2, e2, h⟩ := ag0 h
  have q2 := al0 hE q1.2 e2
  injection h with h; injection h with h1 h2; subst h2
  dsimp only at *; omega
def pStmV (ts : List Tok) (f d n : Nat) : PR Stm :=
  if isT ts n 1 fg0 then (dA0 ts (n + 1)).bind fun t => (bi0 ts t.2 [61]).bind fun n1 => (pVal ts f d [59] n1).bind fun p => .ok (stm0 1 t.1.text [p.1] [] [] (tk ts n).at_, p.2)
  else if isT ts n 1 em0 then (dA0 ts (n + 1)).bind fun t =>
   if isT ts t.2 4 [91] then (pVal ts f d [93] (t.2 + 1)).bind fun p => (bi0 ts p.2 [61]).bind fun n2 => (pVal ts f d [59] n2).bind fun q => .ok (stm0 2 t.1.text [p.1, q.1] [] [] (tk ts n).at_, q.2)
   else (bi0 ts t.2 [61]).bind fun n1 => (pVal ts f d [59] n1).bind fun p => .ok (stm0 2 t.1.text [p.1] [] [] (tk ts n).at_, p.2)
  else if isT ts n 1 fe0 then (dA0 ts (n + 1)).bind fun t => (bi0 ts t.2 [91]).bind fun n1 => (pVal ts f d [93] n1).bind fun p => (bi0 ts p.2 [59]).bind fun n3 => .ok (stm0 3 t.1.text [p.1] [] [] (tk ts n).at_, n3)
  else if isT ts n 1 kwIf then (pVal ts f d [] (n + 1)).bind fun p => (ca0 ts f (d + 1) p.2).bind fun b =>
   if isT ts b.2 1 cp0 then (ca0 ts f (d + 1) (b.2 + 1)).bind fun c => .ok (stm0 4 (bS []) [p.1] b.1 c.1 (tk ts n).at_, c.2) else .ok (stm0 4 (bS []) [p.1] b.1 [] (tk ts n).at_, b.2)
  else if isT ts n 1 ff0 then (dA0 ts (n + 1)).bind fun t => (nf0 ts t.2 kwTo).bind fun n1 => (pVal ts f d [] n1).bind fun p => (ca0 ts f (d + 1) p.2).bind fun b => .ok (stm0 5 t.1.text [p.1] b.1 [] (tk ts n).at_, b.2)
  else if isT ts n 1 fh0 then (pVal ts f d [59] (n + 1)).bind fun p => .ok (stm0 6 (bS []) [p.1] [] [] (tk ts n).at_, p.2)
  else e50 ts n 31
theorem pVal_nil (f d : Nat) : pVal ts f d [] n = b10 ts f (d + 1) n := by
 unfold pVal
 simp only [if_true]
 exact bind_ok_r _
theorem pVal_mark (f d : Nat) (c : UInt8) : pVal ts f d [c] n = (b10 ts f (d + 1) n).bind fun p => (bi0 ts p.2 [c]).bind fun m => .ok (p.1, m) := by
 unfold pVal
 simp only [List.cons_ne_nil, if_false]
theorem pStm_eq (f d : Nat) : pStm ts (f + 1) d n = pStmV ts f d n := by
 rw [pStm, pStmV]
 simp only [pVal_nil, pVal_mark, bind_assoc, bind_okk]
def aE0 (ts : List Tok) (n : Int) (kind : Int) (name : ByteArray) (at_ : Int) (d : Nat) (y : Exq) : List Ob :=
 aJ0 ts n kind name (.arr (.e 4) 0 1) at_ d ++ [.row dP0 8 true [y.cells]]
def fn0 (ts : List Tok) (n : Int) (kind : Int) (name : ByteArray) (at_ : Int) (d : Nat) (y : Exq) : Option (List (List V)) -> List Ob
 | none => aE0 ts n kind name at_ d y
 | some l => aJ0 ts n kind name (.lst l) at_ d ++ [.gone]
theorem pf0 (hE : TEnd ts) (hl : ts.length < 2 ^ 40) (hn : n < ts.length) (f d : Nat) (hd : d <= 24) (mark : Bs) (kind : Int) (name : ByteArray) (at_ : Int) (y : Exq) (hlive : (pVal ts f d mark n).live) :
  J prog bZ0 [vS (bS mark), .bp (.e 0) 0, .bp (.e 1) 0, .bp (.e 2) 0] (aE0 ts n kind name at_ d y) (fun r => match pVal ts f d mark n with
   | .ok (x, m) => r = .ret (.tup []) (aJ0 ts m kind name (.arr (.e 5) 0 2) at_ d ++ [.gone, .row dP0 8 true [y.cells, x.cells]])
   | .bad a e => ∃ z, r = .pan (iX0 ts a e) (fn0 ts a kind name at_ d y z)) := by
 generalize hw : pVal ts f d mark n = R at *
 unfold pVal at hw
 have hlv := hlive
 rw [<- hw] at hlv
 have hJ := (doesX hE hl f).ex (d + 1) n (by omega) hn (LxR.aI0 hlv).1
 refine at0 c40 (by simp [aJ0, aE0]) ?_
 refine rS6 @bQ0.eq_1 @aJ0.eq_1 @aE0.eq_1 @aK0.eq_1 @hpE.eq_1 @hpE.eq_2 ?_
 rcases hx : b10 ts f (d + 1) n with ⟨x, m⟩ | ⟨a, e⟩
 ·rw [hx] at hJ hw
  simp only [pAns, LxR.bind] at hJ hw
  have q1 := (ks0 hE f).ex hn hx
  refine bl0 [.e 3] ?_
  simp
  have hO := hJ
  try simp [pObs, bf0, aK0, aJ0, aE0] at hO
  refine cE0 10 hO ?_
  refine rS0 ?_
  rw [aP0 (e := [vI 0, vI 0, vI 0, vS (bS []), vI 0, vS (bS []), .lst [], vI 0]) rfl]
  refine rS1 @kB0 ?_
  by_cases hm : mark = []
  ·subst hm
   rw [if_pos rfl] at hw
   subst hw
   refine rS0 ?_
   refine bX0 [.l 13 0] ?_
   exact rT3 @aJ0.eq_1 @aE0.eq_1 @aK0.eq_1
  ·rw [if_neg hm] at hw
   refine rS1 hm ?_
   have hJ2 := aq0 q1.2 hl mark
   rcases hx2 : bi0 ts m mark with m2 | ⟨a, e⟩
   ·rw [hx2] at hJ2 hw
    simp only [ar0, LxR.bind] at hJ2 hw
    subst hw
    refine aa0 [.e 3] ?_
    simp
    have hO := hJ2
    try simp [pObs, bf0, aK0, aJ0, aE0] at hO
    refine ab0 20 hO ?_
    refine rS0 ?_
    refine bX0 [.l 13 0] ?_
    exact rT3 @aJ0.eq_1 @aE0.eq_1 @aK0.eq_1
   ·rw [hx2] at hJ2 hw
    simp only [ar0, LxR.bind] at hJ2 hw
    subst hw
    refine aa0 [.e 3] ?_
    simp
    have hO := hJ2
    try simp [pObs, bf0, aK0, aJ0, aE0] at hO
    refine af0 hO ?_
    refine rS0 ?_
    refine endP ?_
    refine rS3 @aJ0.eq_1 @aE0.eq_1 @aK0.eq_1 ?_
    exact ⟨some [y.cells, x.cells], rfl⟩
 ·rw [hx] at hJ hw
  simp only [pAns, LxR.bind] at hJ hw
  subst hw
  refine bl0 [.e 3] ?_
  simp
  have hO := hJ
  try simp [pObs, bf0, aK0, aJ0, aE0] at hO
  refine cL0 hO ?_
  refine rS0 ?_
  refine endP ?_
  refine rS3 @aJ0.eq_1 @aE0.eq_1 @aK0.eq_1 ?_
  exact ⟨none, rfl⟩
variable {ts : List Tok} {n : Nat}
abbrev stmsV (l : List Stm) : V := .lst (l.map Stm.cells)
set_option maxHeartbeats 3200000 in
theorem jZ0 (hE : TEnd ts) (hl : ts.length < 2 ^ 40) (F d : Nat) (hd : d <= 24)
  (IHk : ∀ g, g < F -> ∀ d n, d <= 25 -> n < ts.length -> (ca0 ts g d n).live -> J prog ck0 [.bp (.e 0) 0, vI d] (pObs ts n) (· = pAns ts stmsV (ca0 ts g d n)))
  (hn : n < ts.length) (hlive : (pStm ts F d n).live) : J prog bu0 [.bp (.e 0) 0, vI d] (pObs ts n) (· = pAns ts Stm.V (pStm ts F d n)) := by
 obtain _ | F := F
 ·rw [pStm] at hlive; exact absurd rfl hlive
 generalize hw : pStm ts (F + 1) d n = R at *
 rw [pStm_eq, pStmV] at hw
 refine at0 g40 (by simp [pObs]) ?_
 refine rS4 @dt0.eq_1 @pObs.eq_1 @hpE.eq_1 @hpE.eq_2 ?_
 refine aa0 [.e 0] ?_
 simp
 have hO := a90 hn
 try simp [pObs, bf0, aK0, aJ0, aE0] at hO
 refine ab0 9 hO ?_
 refine rS0 ?_
 refine aa0 [.e 0] ?_
 simp
 have hO := aj0 hn hl 1 fg0
 try simp [pObs, bf0, aK0, aJ0, aE0] at hO
 refine ab0 18 hO ?_
 cases hkwLet : isT ts n 1 fg0 with
 | true =>
  have h0 := aw0 hE hn hkwLet (by decide)
  rw [hkwLet] at hw
  simp only [if_true] at hw
  refine rS0 ?_
  have hJ := fN0 hl h0 1 (tk ts n).at_
  rcases hx1 : dA0 ts (n + 1) with ⟨t1, n1⟩ | ⟨a, e⟩
  rotate_left
  ·rw [hx1] at hJ hw
   simp only [pAns, ar0, LxR.bind] at hJ hw
   subst hw
   refine aa0 [.l 2 0, .l 5 0, .e 0] ?_
   simp
   have hO := hJ
   try simp [pObs, bf0, aK0, aJ0, aE0] at hO
   refine af0 hO ?_
   refine rS0 ?_
   refine endP ?_
   exact rT3 @pObs.eq_1 @pAns.eq_1 @pAns.eq_2
  have q1 := a10 hE h0 hx1
  rw [hx1] at hJ hw
  simp only [pAns, ar0, LxR.bind] at hJ hw
  refine aa0 [.l 2 0, .l 5 0, .e 0] ?_
  simp
  have hO := hJ
  try simp [pObs, bf0, aK0, aJ0, aE0] at hO
  refine ab0 20 hO ?_
  refine rS0 ?_
  have hJ := aq0 q1.2 hl [61]
  rcases hx2 : bi0 ts n1 [61] with n2 | ⟨a, e⟩
  rotate_left
  ·rw [hx2] at hJ hw
   simp only [pAns, ar0, LxR.bind] at hJ hw
   subst hw
   refine aa0 [.e 0] ?_
   simp
   have hO := hJ
   try simp [pObs, bf0, aK0, aJ0, aE0] at hO
   refine af0 hO ?_
   refine rS0 ?_
   refine endP ?_
   exact rT3 @pObs.eq_1 @pAns.eq_1 @pAns.eq_2
  have q2 := al0 hE q1.2 hx2
  rw [hx2] at hJ hw
  simp only [pAns, ar0, LxR.bind] at hJ hw
  refine aa0 [.e 0] ?_
  simp
  have hO := hJ
  try simp [pObs, bf0, aK0, aJ0, aE0] at hO
  refine ab0 22 hO ?_
  refine rS0 ?_
  have hlv := hlive
  rw [<- hw] at hlv
  have hJ := cB0 hE hl q2.2 F d hd [59] 1 t1.text (tk ts n).at_ (LxR.aI0 hlv).1
  rcases hx3 : pVal ts F d [59] n2 with ⟨x3, n3⟩ | ⟨a, e⟩
  rotate_left
  ·rw [hx3] at hJ hw
   simp only [pAns, ar0, LxR.bind] at hJ hw
   subst hw
   refine cZ0 [.l 5 0, .l 2 0, .l 3 0, .e 0] rfl rfl (by simp) ?_
   simp
   have hpO := hJ
   try simp [pObs, aJ0, aE0, fn0, aK0] at hpO
   refine cM0 hpO ?_
   clear hpO hJ
   intro y
   rcases y with _ | y
   all_goals
    refine rS6 @optV.eq_1 @optV.eq_2 @fn0.eq_1 @fn0.eq_2 @aJ0.eq_1 @aK0.eq_1 ?_
    refine endP ?_
    exact rT3 @pObs.eq_1 @pAns.eq_1 @pAns.eq_2
  have q3 := iY0 hE q2.2 hx3
  rw [hx3] at hJ hw
  simp only [pAns, ar0, LxR.bind] at hJ hw
  refine aa0 [.l 5 0, .l 2 0, .l 3 0, .e 0] ?_
  simp
  have hO := hJ
  try simp [pObs, bf0, aK0, aJ0, aE0] at hO
  refine ab0 24 hO ?_
  refine rS0 ?_
  subst hw
  refine ax0 [] ?_
  rw [pAns, stm0, Stm.V, Stm.ac0 (.mk _ _ _ _ _ _ _ _ _)]
  simp +contextual (maxSteps := 2000000) (disch := omega) [-Int.not_lt, -Int.not_le, -Nat.not_lt, -Nat.not_le, sx, pObs, Stm.kind, Stm.name, Stm.slot, Stm.state, Stm.num, Stm.e, Stm.body, Stm.els, Stm.at_]
 | false =>
 rw [hkwLet] at hw
 simp only [Bool.false_eq_true, if_false] at hw
 refine rS0 ?_
 refine aa0 [.e 0] ?_
 simp
 have hO := aj0 hn hl 1 em0
 try simp [pObs, bf0, aK0, aJ0, aE0] at hO
 refine ab0 27 hO ?_
 cases hkwSet : isT ts n 1 em0 with
 | true =>
  have h0 := aw0 hE hn hkwSet (by decide)
  rw [hkwSet] at hw
  simp only [if_true] at hw
  refine rS0 ?_
  have hJ := fN0 hl h0 2 (tk ts n).at_
  rcases hx1 : dA0 ts (n + 1) with ⟨t1, n1⟩ | ⟨a, e⟩
  rotate_left
  ·rw [hx1] at hJ hw
   simp only [pAns, ar0, LxR.bind] at hJ hw
   subst hw
   refine aa0 [.l 2 0, .l 5 0, .e 0] ?_
   simp
   have hO := hJ
   try simp [pObs, bf0, aK0, aJ0, aE0] at hO
   refine af0 hO ?_
   refine rS0 ?_
   refine endP ?_
   exact rT3 @pObs.eq_1 @pAns.eq_1 @pAns.eq_2
  have q1 := a10 hE h0 hx1
  rw [hx1] at hJ hw
  simp only [pAns, ar0, LxR.bind] at hJ hw
  refine aa0 [.l 2 0, .l 5 0, .e 0] ?_
  simp
  have hO := hJ
  try simp [pObs, bf0, aK0, aJ0, aE0] at hO
  refine ab0 29 hO ?_
  refine rS0 ?_
  refine aa0 [.e 0] ?_
  simp
  have hO := aj0 q1.2 hl 4 [91]
  try simp [pObs, bf0, aK0, aJ0, aE0] at hO
  refine ab0 31 hO ?_
  cases hb : isT ts n1 4 [91] with
  | true =>
   have h00 := aw0 hE q1.2 hb (by decide)
   rw [hb] at hw
   simp only [if_true] at hw
   refine rS0 ?_
   have hlv := hlive
   rw [<- hw] at hlv
   have hJ := cB0 hE hl h00 F d hd [93] 2 t1.text (tk ts n).at_ (LxR.aI0 hlv).1
   rcases hx2 : pVal ts F d [93] (n1 + 1) with ⟨x2, n2⟩ | ⟨a, e⟩
   rotate_left
   ·rw [hx2] at hJ hw
    simp only [pAns, ar0, LxR.bind] at hJ hw
    subst hw
    refine cZ0 [.l 5 0, .l 2 0, .l 3 0, .e 0] rfl rfl (by simp) ?_
    simp
    have hpO := hJ
    try simp [pObs, aJ0, aE0, fn0, aK0] at hpO
    refine cM0 hpO ?_
    clear hpO hJ
    intro y
    rcases y with _ | y
    all_goals
     refine rS6 @optV.eq_1 @optV.eq_2 @fn0.eq_1 @fn0.eq_2 @aJ0.eq_1 @aK0.eq_1 ?_
     refine endP ?_
     exact rT3 @pObs.eq_1 @pAns.eq_1 @pAns.eq_2
   have q2 := iY0 hE h00 hx2
   rw [hx2] at hJ hw
   simp only [pAns, ar0, LxR.bind] at hJ hw
   refine aa0 [.l 5 0, .l 2 0, .l 3 0, .e 0] ?_
   simp
   have hO := hJ
   try simp [pObs, bf0, aK0, aJ0, aE0] at hO
   refine ab0 33 hO ?_
   refine rS0 ?_
   have hJ := aq0 q2.2 hl [61]
   rcases hx3 : bi0 ts n2 [61] with n3 | ⟨a, e⟩
   rotate_left
   ·rw [hx3] at hJ hw
    simp only [pAns, ar0, LxR.bind] at hJ hw
    subst hw
    refine aa0 [.e 0] ?_
    simp
    have hO := hJ
    try simp [pObs, bf0, aK0, aJ0, aE0] at hO
    refine af0 hO ?_
    refine rS0 ?_
    refine endP ?_
    exact rT3 @pObs.eq_1 @pAns.eq_1 @pAns.eq_2
   have q3 := al0 hE q2.2 hx3
   rw [hx3] at hJ hw
   simp only [pAns, ar0, LxR.bind] at hJ hw
   refine aa0 [.e 0] ?_
   simp
   have hO := hJ
   try simp [pObs, bf0, aK0, aJ0, aE0] at hO
   refine ab0 35 hO ?_
   refine rS0 ?_
   have hlv := hlive
   rw [<- hw] at hlv
   have hJ := pf0 hE hl q3.2 F d hd [59] 2 t1.text (tk ts n).at_ x2 (LxR.aI0 hlv).1
   rcases hx4 : pVal ts F d [59] n3 with ⟨x4, n4⟩ | ⟨a, e⟩
   rotate_left
   ·rw [hx4] at hJ hw
    simp only [pAns, ar0, LxR.bind] at hJ hw
    subst hw
    refine cZ0 [.l 5 0, .l 2 0, .l 3 0, .e 0, .l 33 0] rfl rfl (by simp) ?_
    simp
    have hpO := hJ
    try simp [pObs, aJ0, aE0, fn0, aK0] at hpO
    refine cM0 hpO ?_
    clear hpO hJ
    intro y
    rcases y with _ | y
    all_goals
     refine rS6 @optV.eq_1 @optV.eq_2 @fn0.eq_1 @fn0.eq_2 @aJ0.eq_1 @aK0.eq_1 ?_
     refine endP ?_
     exact rT3 @pObs.eq_1 @pAns.eq_1 @pAns.eq_2
   have q4 := iY0 hE q3.2 hx4
   rw [hx4] at hJ hw
   simp only [pAns, ar0, LxR.bind] at hJ hw
   refine aa0 [.l 5 0, .l 2 0, .l 3 0, .e 0, .l 33 0] ?_
   simp
   have hO := hJ
   try simp [pObs, bf0, aK0, aJ0, aE0] at hO
   refine ab0 37 hO ?_
   refine rS0 ?_
   subst hw
   refine ax0 [] ?_
   rw [pAns, stm0, Stm.V, Stm.ac0 (.mk _ _ _ _ _ _ _ _ _)]
   simp +contextual (maxSteps := 2000000) (disch := omega) [-Int.not_lt, -Int.not_le, -Nat.not_lt, -Nat.not_le, sx, pObs, Stm.kind, Stm.name, Stm.slot, Stm.state, Stm.num, Stm.e, Stm.body, Stm.els, Stm.at_]
  | false =>
  rw [hb] at hw
  simp only [Bool.false_eq_true, if_false] at hw
  refine rS0 ?_
  have hJ := aq0 q1.2 hl [61]
  rcases hx2 : bi0 ts n1 [61] with n2 | ⟨a, e⟩
  rotate_left
  ·rw [hx2] at hJ hw
   simp only [pAns, ar0, LxR.bind] at hJ hw
   subst hw
   refine aa0 [.e 0] ?_
   simp
   have hO := hJ
   try simp [pObs, bf0, aK0, aJ0, aE0] at hO
   refine af0 hO ?_
   refine rS0 ?_
   refine endP ?_
   exact rT3 @pObs.eq_1 @pAns.eq_1 @pAns.eq_2
  have q2 := al0 hE q1.2 hx2
  rw [hx2] at hJ hw
  simp only [pAns, ar0, LxR.bind] at hJ hw
  refine aa0 [.e 0] ?_
  simp
  have hO := hJ
  try simp [pObs, bf0, aK0, aJ0, aE0] at hO
  refine ab0 35 hO ?_
  refine rS0 ?_
  have hlv := hlive
  rw [<- hw] at hlv
  have hJ := cB0 hE hl q2.2 F d hd [59] 2 t1.text (tk ts n).at_ (LxR.aI0 hlv).1
  rcases hx3 : pVal ts F d [59] n2 with ⟨x3, n3⟩ | ⟨a, e⟩
  rotate_left
  ·rw [hx3] at hJ hw
   simp only [pAns, ar0, LxR.bind] at hJ hw
   subst hw
   refine cZ0 [.l 5 0, .l 2 0, .l 3 0, .e 0] rfl rfl (by simp) ?_
   simp
   have hpO := hJ
   try simp [pObs, aJ0, aE0, fn0, aK0] at hpO
   refine cM0 hpO ?_
   clear hpO hJ
   intro y
   rcases y with _ | y
   all_goals
    refine rS6 @optV.eq_1 @optV.eq_2 @fn0.eq_1 @fn0.eq_2 @aJ0.eq_1 @aK0.eq_1 ?_
    refine endP ?_
    exact rT3 @pObs.eq_1 @pAns.eq_1 @pAns.eq_2
  have q3 := iY0 hE q2.2 hx3
  rw [hx3] at hJ hw
  simp only [pAns, ar0, LxR.bind] at hJ hw
  refine aa0 [.l 5 0, .l 2 0, .l 3 0, .e 0] ?_
  simp
  have hO := hJ
  try simp [pObs, bf0, aK0, aJ0, aE0] at hO
  refine ab0 37 hO ?_
  refine rS0 ?_
  subst hw
  refine ax0 [] ?_
  rw [pAns, stm0, Stm.V, Stm.ac0 (.mk _ _ _ _ _ _ _ _ _)]
  simp +contextual (maxSteps := 2000000) (disch := omega) [-Int.not_lt, -Int.not_le, -Nat.not_lt, -Nat.not_le, sx, pObs, Stm.kind, Stm.name, Stm.slot, Stm.state, Stm.num, Stm.e, Stm.body, Stm.els, Stm.at_]
 | false =>
 rw [hkwSet] at hw
 simp only [Bool.false_eq_true, if_false] at hw
 refine rS0 ?_
 refine aa0 [.e 0] ?_
 simp
 have hO := aj0 hn hl 1 fe0
 try simp [pObs, bf0, aK0, aJ0, aE0] at hO
 refine ab0 40 hO ?_
 cases hkwDel : isT ts n 1 fe0 with
 | true =>
  have h0 := aw0 hE hn hkwDel (by decide)
  rw [hkwDel] at hw
  simp only [if_true] at hw
  refine rS0 ?_
  have hJ := fN0 hl h0 3 (tk ts n).at_
  rcases hx1 : dA0 ts (n + 1) with ⟨t1, n1⟩ | ⟨a, e⟩
  rotate_left
  ·rw [hx1] at hJ hw
   simp only [pAns, ar0, LxR.bind] at hJ hw
   subst hw
   refine aa0 [.l 2 0, .l 5 0, .e 0] ?_
   simp
   have hO := hJ
   try simp [pObs, bf0, aK0, aJ0, aE0] at hO
   refine af0 hO ?_
   refine rS0 ?_
   refine endP ?_
   exact rT3 @pObs.eq_1 @pAns.eq_1 @pAns.eq_2
  have q1 := a10 hE h0 hx1
  rw [hx1] at hJ hw
  simp only [pAns, ar0, LxR.bind] at hJ hw
  refine aa0 [.l 2 0, .l 5 0, .e 0] ?_
  simp
  have hO := hJ
  try simp [pObs, bf0, aK0, aJ0, aE0] at hO
  refine ab0 42 hO ?_
  refine rS0 ?_
  have hJ := aq0 q1.2 hl [91]
  rcases hx2 : bi0 ts n1 [91] with n2 | ⟨a, e⟩
  rotate_left
  ·rw [hx2] at hJ hw
   simp only [pAns, ar0, LxR.bind] at hJ hw
   subst hw
   refine aa0 [.e 0] ?_
   simp
   have hO := hJ
   try simp [pObs, bf0, aK0, aJ0, aE0] at hO
   refine af0 hO ?_
   refine rS0 ?_
   refine endP ?_
   exact rT3 @pObs.eq_1 @pAns.eq_1 @pAns.eq_2
  have q2 := al0 hE q1.2 hx2
  rw [hx2] at hJ hw
  simp only [pAns, ar0, LxR.bind] at hJ hw
  refine aa0 [.e 0] ?_
  simp
  have hO := hJ
  try simp [pObs, bf0, aK0, aJ0, aE0] at hO
  refine ab0 44 hO ?_
  refine rS0 ?_
  have hlv := hlive
  rw [<- hw] at hlv
  have hJ := cB0 hE hl q2.2 F d hd [93] 3 t1.text (tk ts n).at_ (LxR.aI0 hlv).1
  rcases hx3 : pVal ts F d [93] n2 with ⟨x3, n3⟩ | ⟨a, e⟩
  rotate_left
  ·rw [hx3] at hJ hw
   simp only [pAns, ar0, LxR.bind] at hJ hw
   subst hw
   refine cZ0 [.l 5 0, .l 2 0, .l 3 0, .e 0] rfl rfl (by simp) ?_
   simp
   have hpO := hJ
   try simp [pObs, aJ0, aE0, fn0, aK0] at hpO
   refine cM0 hpO ?_
   clear hpO hJ
   intro y
   rcases y with _ | y
   all_goals
    refine rS6 @optV.eq_1 @optV.eq_2 @fn0.eq_1 @fn0.eq_2 @aJ0.eq_1 @aK0.eq_1 ?_
    refine endP ?_
    exact rT3 @pObs.eq_1 @pAns.eq_1 @pAns.eq_2
  have q3 := iY0 hE q2.2 hx3
  rw [hx3] at hJ hw
  simp only [pAns, ar0, LxR.bind] at hJ hw
  refine aa0 [.l 5 0, .l 2 0, .l 3 0, .e 0] ?_
  simp
  have hO := hJ
  try simp [pObs, bf0, aK0, aJ0, aE0] at hO
  refine ab0 46 hO ?_
  refine rS0 ?_
  have hJ := aq0 q3.2 hl [59]
  rcases hx4 : bi0 ts n3 [59] with n4 | ⟨a, e⟩
  rotate_left
  ·rw [hx4] at hJ hw
   simp only [pAns, ar0, LxR.bind] at hJ hw
   subst hw
   refine aa0 [.e 0] ?_
   simp
   have hO := hJ
   try simp [pObs, bf0, aK0, aJ0, aE0] at hO
   refine af0 hO ?_
   refine rS0 ?_
   refine endP ?_
   exact rT3 @pObs.eq_1 @pAns.eq_1 @pAns.eq_2
  have q4 := al0 hE q3.2 hx4
  rw [hx4] at hJ hw
  simp only [pAns, ar0, LxR.bind] at hJ hw
  refine aa0 [.e 0] ?_
  simp
  have hO := hJ
  try simp [pObs, bf0, aK0, aJ0, aE0] at hO
  refine ab0 48 hO ?_
  refine rS0 ?_
  subst hw
  refine ax0 [] ?_
  rw [pAns, stm0, Stm.V, Stm.ac0 (.mk _ _ _ _ _ _ _ _ _)]
  simp +contextual (maxSteps := 2000000) (disch := omega) [-Int.not_lt, -Int.not_le, -Nat.not_lt, -Nat.not_le, sx, pObs, Stm.kind, Stm.name, Stm.slot, Stm.state, Stm.num, Stm.e, Stm.body, Stm.els, Stm.at_]
 | false =>
 rw [hkwDel] at hw
 simp only [Bool.false_eq_true, if_false] at hw
 refine rS0 ?_
 refine aa0 [.e 0] ?_
 simp
 have hO := aj0 hn hl 1 kwIf
 try simp [pObs, bf0, aK0, aJ0, aE0] at hO
 refine ab0 51 hO ?_
 cases hkwIf : isT ts n 1 kwIf with
 | true =>
  have h0 := aw0 hE hn hkwIf (by decide)
  rw [hkwIf] at hw
  simp only [if_true] at hw
  refine rS0 ?_
  have hlv := hlive
  rw [<- hw] at hlv
  have hJ := cB0 hE hl h0 F d hd [] 4 (bS []) (tk ts n).at_ (LxR.aI0 hlv).1
  rcases hx1 : pVal ts F d [] (n + 1) with ⟨x1, n1⟩ | ⟨a, e⟩
  rotate_left
  ·rw [hx1] at hJ hw
   simp only [pAns, ar0, LxR.bind] at hJ hw
   subst hw
   refine cZ0 [.l 5 0, .l 2 0, .l 3 0, .e 0] rfl rfl (by simp) ?_
   simp
   have hpO := hJ
   try simp [pObs, aJ0, aE0, fn0, aK0] at hpO
   refine cM0 hpO ?_
   clear hpO hJ
   intro y
   rcases y with _ | y
   all_goals
    refine rS6 @optV.eq_1 @optV.eq_2 @fn0.eq_1 @fn0.eq_2 @aJ0.eq_1 @aK0.eq_1 ?_
    refine endP ?_
    exact rT3 @pObs.eq_1 @pAns.eq_1 @pAns.eq_2
  have q1 := iY0 hE h0 hx1
  rw [hx1] at hJ hw
  simp only [pAns, ar0, LxR.bind] at hJ hw
  refine aa0 [.l 5 0, .l 2 0, .l 3 0, .e 0] ?_
  simp
  have hO := hJ
  try simp [pObs, bf0, aK0, aJ0, aE0] at hO
  refine ab0 54 hO ?_
  refine rS0 ?_
  have hlv := hlive
  rw [<- hw] at hlv
  have hJ := IHk F (by omega) (d + 1) n1 (by omega) q1.2 (LxR.aI0 hlv).1
  rcases hx2 : ca0 ts F (d + 1) n1 with ⟨b2, n2⟩ | ⟨a, e⟩
  rotate_left
  ·rw [hx2] at hJ hw
   simp only [pAns, ar0, LxR.bind] at hJ hw
   subst hw
   refine aa0 [.e 0] ?_
   simp
   have hO := hJ
   try simp [pObs, bf0, aK0, aJ0, aE0] at hO
   refine af0 hO ?_
   refine rS0 ?_
   refine endP ?_
   exact rT3 @pObs.eq_1 @pAns.eq_1 @pAns.eq_2
  have q2 := (mY0 hE F).block q1.2 hx2
  rw [hx2] at hJ hw
  simp only [pAns, ar0, LxR.bind] at hJ hw
  refine aa0 [.e 0] ?_
  simp
  have hO := hJ
  try simp [pObs, bf0, aK0, aJ0, aE0] at hO
  refine ab0 58 hO ?_
  refine rS0 ?_
  refine aa0 [.e 0] ?_
  simp
  have hO := aj0 q2.2 hl 1 cp0
  try simp [pObs, bf0, aK0, aJ0, aE0] at hO
  refine ab0 61 hO ?_
  cases hb : isT ts n2 1 cp0 with
  | true =>
   have h00 := aw0 hE q2.2 hb (by decide)
   rw [hb] at hw
   simp only [if_true] at hw
   refine rS0 ?_
   have hlv := hlive
   rw [<- hw] at hlv
   have hJ := IHk F (by omega) (d + 1) (n2 + 1) (by omega) h00 (LxR.aI0 hlv).1
   rcases hx3 : ca0 ts F (d + 1) (n2 + 1) with ⟨b3, n3⟩ | ⟨a, e⟩
   rotate_left
   ·rw [hx3] at hJ hw
    simp only [pAns, ar0, LxR.bind] at hJ hw
    subst hw
    refine aa0 [.e 0] ?_
    simp
    have hO := hJ
    try simp [pObs, bf0, aK0, aJ0, aE0] at hO
    refine af0 hO ?_
    refine rS0 ?_
    refine endP ?_
    exact rT3 @pObs.eq_1 @pAns.eq_1 @pAns.eq_2
   have q3 := (mY0 hE F).block h00 hx3
   rw [hx3] at hJ hw
   simp only [pAns, ar0, LxR.bind] at hJ hw
   refine aa0 [.e 0] ?_
   simp
   have hO := hJ
   try simp [pObs, bf0, aK0, aJ0, aE0] at hO
   refine ab0 65 hO ?_
   refine rS0 ?_
   subst hw
   refine ax0 [] ?_
   rw [pAns, stm0, Stm.V, Stm.ac0 (.mk _ _ _ _ _ _ _ _ _)]
   simp +contextual (maxSteps := 2000000) (disch := omega) [-Int.not_lt, -Int.not_le, -Nat.not_lt, -Nat.not_le, sx, pObs, Stm.kind, Stm.name, Stm.slot, Stm.state, Stm.num, Stm.e, Stm.body, Stm.els, Stm.at_]
  | false =>
  rw [hb] at hw
  simp only [Bool.false_eq_true, if_false] at hw
  refine rS0 ?_
  subst hw
  refine ax0 [] ?_
  rw [pAns, stm0, Stm.V, Stm.ac0 (.mk _ _ _ _ _ _ _ _ _)]
  simp +contextual (maxSteps := 2000000) (disch := omega) [-Int.not_lt, -Int.not_le, -Nat.not_lt, -Nat.not_le, sx, pObs, Stm.kind, Stm.name, Stm.slot, Stm.state, Stm.num, Stm.e, Stm.body, Stm.els, Stm.at_]
 | false =>
 rw [hkwIf] at hw
 simp only [Bool.false_eq_true, if_false] at hw
 refine rS0 ?_
 refine aa0 [.e 0] ?_
 simp
 have hO := aj0 hn hl 1 ff0
 try simp [pObs, bf0, aK0, aJ0, aE0] at hO
 refine ab0 68 hO ?_
 cases hkwFor : isT ts n 1 ff0 with
 | true =>
  have h0 := aw0 hE hn hkwFor (by decide)
  rw [hkwFor] at hw
  simp only [if_true] at hw
  refine rS0 ?_
  have hJ := fN0 hl h0 5 (tk ts n).at_
  rcases hx1 : dA0 ts (n + 1) with ⟨t1, n1⟩ | ⟨a, e⟩
  rotate_left
  ·rw [hx1] at hJ hw
   simp only [pAns, ar0, LxR.bind] at hJ hw
   subst hw
   refine aa0 [.l 2 0, .l 5 0, .e 0] ?_
   simp
   have hO := hJ
   try simp [pObs, bf0, aK0, aJ0, aE0] at hO
   refine af0 hO ?_
   refine rS0 ?_
   refine endP ?_
   exact rT3 @pObs.eq_1 @pAns.eq_1 @pAns.eq_2
  have q1 := a10 hE h0 hx1
  rw [hx1] at hJ hw
  simp only [pAns, ar0, LxR.bind] at hJ hw
  refine aa0 [.l 2 0, .l 5 0, .e 0] ?_
  simp
  have hO := hJ
  try simp [pObs, bf0, aK0, aJ0, aE0] at hO
  refine ab0 71 hO ?_
  refine rS0 ?_
  refine aa0 [.e 0] ?_
  simp
  have hO := aj0 q1.2 hl 1 kwTo
  try simp [pObs, bf0, aK0, aJ0, aE0] at hO
  refine ab0 73 hO ?_
  cases hb : isT ts n1 1 kwTo with
  | false =>
   rw [nf0, hb] at hw
   simp only [Bool.false_eq_true, if_false, e50, LxR.bind] at hw
   subst hw
   refine rS0 ?_
   refine aa0 [.e 0] ?_
   simp
   have hO := aX0 q1.2 31
   try simp [pObs, bf0, aK0, aJ0, aE0] at hO
   refine af0 hO ?_
   refine rS0 ?_
   refine endP ?_
   exact rT3 @pObs.eq_1 @pAns.eq_1 @pAns.eq_2
  | true =>
  have h00 := aw0 hE q1.2 hb (by decide)
  rw [nf0, hb] at hw
  simp only [if_true, LxR.bind] at hw
  refine rS0 ?_
  have hlv := hlive
  rw [<- hw] at hlv
  have hJ := cB0 hE hl h00 F d hd [] 5 t1.text (tk ts n).at_ (LxR.aI0 hlv).1
  rcases hx2 : pVal ts F d [] (n1 + 1) with ⟨x2, n2⟩ | ⟨a, e⟩
  rotate_left
  ·rw [hx2] at hJ hw
   simp only [pAns, ar0, LxR.bind] at hJ hw
   subst hw
   refine cZ0 [.l 5 0, .l 2 0, .l 3 0, .e 0] rfl rfl (by simp) ?_
   simp
   have hpO := hJ
   try simp [pObs, aJ0, aE0, fn0, aK0] at hpO
   refine cM0 hpO ?_
   clear hpO hJ
   intro y
   rcases y with _ | y
   all_goals
    refine rS6 @optV.eq_1 @optV.eq_2 @fn0.eq_1 @fn0.eq_2 @aJ0.eq_1 @aK0.eq_1 ?_
    refine endP ?_
    exact rT3 @pObs.eq_1 @pAns.eq_1 @pAns.eq_2
  have q2 := iY0 hE h00 hx2
  rw [hx2] at hJ hw
  simp only [pAns, ar0, LxR.bind] at hJ hw
  refine aa0 [.l 5 0, .l 2 0, .l 3 0, .e 0] ?_
  simp
  have hO := hJ
  try simp [pObs, bf0, aK0, aJ0, aE0] at hO
  refine ab0 78 hO ?_
  refine rS0 ?_
  have hlv := hlive
  rw [<- hw] at hlv
  have hJ := IHk F (by omega) (d + 1) n2 (by omega) q2.2 (LxR.aI0 hlv).1
  rcases hx3 : ca0 ts F (d + 1) n2 with ⟨b3, n3⟩ | ⟨a, e⟩
  rotate_left
  ·rw [hx3] at hJ hw
   simp only [pAns, ar0, LxR.bind] at hJ hw
   subst hw
   refine aa0 [.e 0] ?_
   simp
   have hO := hJ
   try simp [pObs, bf0, aK0, aJ0, aE0] at hO
   refine af0 hO ?_
   refine rS0 ?_
   refine endP ?_
   exact rT3 @pObs.eq_1 @pAns.eq_1 @pAns.eq_2
  have q3 := (mY0 hE F).block q2.2 hx3
  rw [hx3] at hJ hw
  simp only [pAns, ar0, LxR.bind] at hJ hw
  refine aa0 [.e 0] ?_
  simp
  have hO := hJ
  try simp [pObs, bf0, aK0, aJ0, aE0] at hO
  refine ab0 82 hO ?_
  refine rS0 ?_
  subst hw
  refine ax0 [] ?_
  rw [pAns, stm0, Stm.V, Stm.ac0 (.mk _ _ _ _ _ _ _ _ _)]
  simp +contextual (maxSteps := 2000000) (disch := omega) [-Int.not_lt, -Int.not_le, -Nat.not_lt, -Nat.not_le, sx, pObs, Stm.kind, Stm.name, Stm.slot, Stm.state, Stm.num, Stm.e, Stm.body, Stm.els, Stm.at_]
 | false =>
 rw [hkwFor] at hw
 simp only [Bool.false_eq_true, if_false] at hw
 refine rS0 ?_
 refine aa0 [.e 0] ?_
 simp
 have hO := aj0 hn hl 1 fh0
 try simp [pObs, bf0, aK0, aJ0, aE0] at hO
 refine ab0 86 hO ?_
 cases hkwRet : isT ts n 1 fh0 with
 | true =>
  have h0 := aw0 hE hn hkwRet (by decide)
  rw [hkwRet] at hw
  simp only [if_true] at hw
  refine rS0 ?_
  have hlv := hlive
  rw [<- hw] at hlv
  have hJ := cB0 hE hl h0 F d hd [59] 6 (bS []) (tk ts n).at_ (LxR.aI0 hlv).1
  rcases hx1 : pVal ts F d [59] (n + 1) with ⟨x1, n1⟩ | ⟨a, e⟩
  rotate_left
  ·rw [hx1] at hJ hw
   simp only [pAns, ar0, LxR.bind] at hJ hw
   subst hw
   refine cZ0 [.l 5 0, .l 2 0, .l 3 0, .e 0] rfl rfl (by simp) ?_
   simp
   have hpO := hJ
   try simp [pObs, aJ0, aE0, fn0, aK0] at hpO
   refine cM0 hpO ?_
   clear hpO hJ
   intro y
   rcases y with _ | y
   all_goals
    refine rS6 @optV.eq_1 @optV.eq_2 @fn0.eq_1 @fn0.eq_2 @aJ0.eq_1 @aK0.eq_1 ?_
    refine endP ?_
    exact rT3 @pObs.eq_1 @pAns.eq_1 @pAns.eq_2
  have q1 := iY0 hE h0 hx1
  rw [hx1] at hJ hw
  simp only [pAns, ar0, LxR.bind] at hJ hw
  refine aa0 [.l 5 0, .l 2 0, .l 3 0, .e 0] ?_
  simp
  have hO := hJ
  try simp [pObs, bf0, aK0, aJ0, aE0] at hO
  refine ab0 89 hO ?_
  refine rS0 ?_
  subst hw
  refine ax0 [] ?_
  rw [pAns, stm0, Stm.V, Stm.ac0 (.mk _ _ _ _ _ _ _ _ _)]
  simp +contextual (maxSteps := 2000000) (disch := omega) [-Int.not_lt, -Int.not_le, -Nat.not_lt, -Nat.not_le, sx, pObs, Stm.kind, Stm.name, Stm.slot, Stm.state, Stm.num, Stm.e, Stm.body, Stm.els, Stm.at_]
 | false =>
 rw [hkwRet] at hw
 simp only [Bool.false_eq_true, if_false] at hw
 refine rS0 ?_
 simp only [e50] at hw
 subst hw
 refine aa0 [.e 0] ?_
 simp
 have hO := aX0 hn 31
 try simp [pObs, bf0, aK0, aJ0, aE0] at hO
 refine af0 hO ?_
 refine rS0 ?_
 refine endP ?_
 exact rT3 @pObs.eq_1 @pAns.eq_1 @pAns.eq_2
variable {ts : List Tok} {n : Nat}
theorem mh0 (hE : TEnd ts) (hl : ts.length < 2 ^ 40) (F d : Nat) (hd : d <= 25)
  (IHs : ∀ g, g < F -> ∀ d n, d <= 24 -> n < ts.length -> (pStm ts g d n).live -> J prog bu0 [.bp (.e 0) 0, vI d] (pObs ts n) (· = pAns ts Stm.V (pStm ts g d n)))
  (hn : n < ts.length) (hlive : (ca0 ts F d n).live) : J prog ck0 [.bp (.e 0) 0, vI d] (pObs ts n) (· = pAns ts stmsV (ca0 ts F d n)) := by
 obtain _ | F := F
 ·rw [ca0] at hlive; exact absurd rfl hlive
 generalize hw : ca0 ts (F + 1) d n = R at *
 rw [ca0] at hw
 have hJ := cs0 hn d
 refine at0 iM0 (by simp [pObs]) ?_
 refine rS4 @eQ0.eq_1 @pObs.eq_1 @hpE.eq_1 @hpE.eq_2 ?_
 by_cases h : d <= 24
 rotate_left
 ·rw [mp0 h] at hJ hw
  simp only [LxR.bind] at hJ hw
  subst hw
  refine aa0 [.e 0] ?_
  simp
  have hO := hJ
  try simp [pObs] at hO
  refine af0 hO ?_
  refine rS0 ?_
  refine endP ?_
  exact rT3 @pObs.eq_1 @pAns.eq_1 @pAns.eq_2
 rw [oC0 h] at hJ hw
 simp only [LxR.bind] at hJ hw
 refine aa0 [.e 0] ?_
 simp
 have hO := hJ
 try simp [pObs] at hO
 refine ab0 8 hO ?_
 refine rS0 ?_
 have hJ := aq0 hn hl [123]
 rcases hx : bi0 ts n [123] with n1 | ⟨a, e⟩
 rotate_left
 ·rw [hx] at hJ hw
  simp only [ar0] at hJ hw
  subst hw
  refine aa0 [.e 0] ?_
  simp
  have hO := hJ
  try simp [pObs] at hO
  refine af0 hO ?_
  refine rS0 ?_
  refine endP ?_
  exact rT3 @pObs.eq_1 @pAns.eq_1 @pAns.eq_2
 have q1 := al0 hE hn hx
 rw [hx] at hJ hw
 simp only [ar0] at hJ hw
 refine aa0 [.e 0] ?_
 simp
 have hO := hJ
 try simp [pObs] at hO
 refine ab0 10 hO ?_
 refine rS0 ?_
 refine aO0 (fun y : Nat × Nat × List Stm => y.1) (fun y => [(5, .arr (.l 999 0) 0 y.2.2.length), (0, .bp (.e 0) 0), (1, vI d)])
  (fun y => [(.e 0, .box [.lst (ts.map Tok.cells), vI y.2.1]), (.l 999 0, .row ol0 9 true (y.2.2.map Stm.cells))])
  (fun y => y.1 <= F /\ y.2.1 < ts.length /\ y.2.2.length <= y.2.1 /\ lF0 ts y.1 d y.2.2 y.2.1 = R) (F, n1, []) ⟨Nat.le_refl _, q1.2, by simp, hw⟩
  (Wk.trans (Wk.subs (by simp) (by simp)) (Wk.row (s := 5) (id := .l 999 0) (ty := ol0) (sz := 9) rfl)) ?_
 rintro ⟨g, n', out⟩ ⟨hg, hn', ho, hw⟩
 dsimp only at hg hn' ho hw
 obtain _ | g := g
 ·rw [lF0] at hw; subst hw; exact absurd rfl hlive
 rw [lF0] at hw
 refine rS0 ?_
 refine aa0 [.e 0] ?_
 simp
 have hO := aj0 hn' hl 4 [125]
 try simp [pObs] at hO
 refine ab0 12 hO ?_
 cases h2 : isT ts n' 4 [125] with
 | true =>
  rw [h2, if_pos rfl] at hw
  subst hw
  refine rS0 ?_
  refine ax0 [] ?_
  exact rT3 @pObs.eq_1 @pAns.eq_1 @pAns.eq_2
 | false =>
  rw [h2, if_neg (by simp)] at hw
  have hlv := hlive
  rw [<- hw] at hlv
  have hJ := IHs g (by omega) d n' h hn' (LxR.aI0 hlv).1
  refine rS0 ?_
  rcases hx : pStm ts g d n' with ⟨x, m⟩ | ⟨a, e⟩
  ·rw [hx] at hJ hw
   simp only [pAns, LxR.bind] at hJ hw
   have q2 := (mY0 hE g).stm hn' hx
   refine aa0 [.e 0] ?_
   simp
   have hO := hJ
   try simp [pObs] at hO
   refine ab0 17 hO ?_
   refine rS0 ?_
   refine .of (g, m, out ++ [x]) ⟨by dsimp only; omega, q2.2, by simp; omega, hw⟩ (by dsimp only; omega) (Wk.rens (.l 19 0) (.l 999 0) rfl (by simp) (by simp [renF]) (by simp [renF, bO0]))
  ·rw [hx] at hJ hw
   simp only [pAns, LxR.bind] at hJ hw
   subst hw
   refine aa0 [.e 0] ?_
   simp
   have hO := hJ
   try simp [pObs] at hO
   refine af0 hO ?_
   refine rS0 ?_
   refine endP ?_
   exact rT3 @pObs.eq_1 @pAns.eq_1 @pAns.eq_2
structure DoesS (ts : List Tok) (f : Nat) : Prop where
 block : ∀ d n, d <= 25 -> n < ts.length -> (ca0 ts f d n).live -> J prog ck0 [.bp (.e 0) 0, vI d] (pObs ts n) (· = pAns ts stmsV (ca0 ts f d n))
 stm : ∀ d n, d <= 24 -> n < ts.length -> (pStm ts f d n).live -> J prog bu0 [.bp (.e 0) 0, vI d] (pObs ts n) (· = pAns ts Stm.V (pStm ts f d n))
theorem doesS (hE : TEnd ts) (hl : ts.length < 2 ^ 40) (f : Nat) : DoesS ts f := by
 induction f using Nat.strongRecOn with
 | ind f ih =>
  exact ⟨fun d n hd hn h => mh0 hE hl f d hd (fun g hg => (ih g hg).stm) hn h, fun d n hd hn h => jZ0 hE hl f d hd (fun g hg => (ih g hg).block) hn h⟩
end Go.Am
end
