/- A sorted list in an arena, plainly; and how all of it lies in a virtual heap. No program in sight. -/
import Derived.Test.YtglghdjpkecngaaGreatAD
namespace Go.FL
set_option linter.unusedVariables false
set_option linter.unusedSimpArgs false
open Go Go.SL

def u64i (n : Int) : Nat := (n % 18446744073709551616).toNat
def putLink (next : Nat) (gone : Bool) : Int := if gone then ((next &&& 4294967295 ||| 4294967296 : Nat) : Int) else ((next &&& 4294967295 : Nat) : Int)
def linkNext (n : Int) : Nat := u64i n &&& 4294967295
def linkGone (n : Int) : Bool := !Nat.beq (u64i n &&& 4294967296) 0
structure ListS where
  kind : Int
  key : Int
  head : Nat
  pc : Nat
  a : Option ActS
  pred : Nat
  curr : Nat
  link : Int
  node : Nat
  seen : Int
  out : DoneS
def checkList (kind key : Int) : Bool := decide (kind ≥ 1) && decide (kind ≤ 3) && decide (key ≥ 0) && decide (key < 1073741824)
def newList (kind key : Int) (head : Nat) : ListS := ⟨kind, key, head, 0, none, 0, 0, 0, 0, 0, ⟨0, 0, 0, 0⟩⟩
def ListS.want (s : ListS) : ActX :=
  match s.pc with
  | 0 => ⟨3, 0, s.head, 1, 0, 0, true⟩
  | 2 => ⟨3, 0, s.curr, 0, 0, 0, true⟩
  | 3 => ⟨5, 0, s.pred, 1, putLink (linkNext s.link) false, w64 s.curr, true⟩
  | 10 => ⟨5, 0, s.pred, 1, putLink (linkNext s.link) false, w64 s.curr, true⟩
  | 4 => ⟨2, 0, s.curr, 0, 0, 0, true⟩
  | 11 => ⟨2, 0, if Nat.beq s.node 0 then s.curr else s.node, 0, 0, 0, true⟩
  | 5 => ⟨1, 2, 0, 0, 0, 0, true⟩
  | 6 => ⟨4, 0, s.node, 0, s.key, 0, true⟩
  | 7 => ⟨4, 0, s.node, 1, w64 s.curr, 0, true⟩
  | 8 => ⟨5, 0, s.pred, 1, w64 s.node, w64 s.curr, true⟩
  | 9 => ⟨5, 0, s.curr, 1, arith .or .i64 s.link 4294967296, s.link, true⟩
  | _ => ⟨3, 0, s.curr, 1, 0, 0, true⟩
def ListS.fin (s : ListS) (x v st : Int) : Bool × ListS :=
  let s := { s with out := ⟨x, 0, v, st⟩ }
  if Nat.beq s.node 0 then (true, s) else (false, { s with pc := 11 })
def ListS.again (s : ListS) : Bool × ListS := (false, { s with pc := 0 })
def ListS.absent (s : ListS) : Bool × ListS :=
  if s.kind ≠ 2 then s.fin 0 0 s.seen else (false, { s with pc := if Nat.beq s.node 0 then 5 else 7 })
def ListS.at (s : ListS) (pred : Nat) (n st : Int) : Bool × ListS :=
  let s := { s with pred := pred, curr := linkNext n, seen := st }
  if Nat.beq s.curr 0 then s.absent else (false, { s with pc := 1 })
def ListS.present (s : ListS) (st : Int) : Bool × ListS :=
  if s.kind = 3 then (false, { s with pc := 9 }) else if s.kind = 2 then s.fin 0 0 st else s.fin 0 1 st
def ListS.looked (s : ListS) (d : DoneS) : Bool × ListS :=
  if d.e ≠ 0 ∧ s.pc = 0 then s.fin d.e 0 d.s
  else if d.e ≠ 0 then s.again
  else if s.pc = 0 then s.at s.head d.v d.s
  else if s.pc = 1 then
    (if linkGone d.v then (false, { s with link := d.v, pc := 3 }) else (false, { s with link := d.v, pc := 2, out := { s.out with s := d.s } }))
  else if d.v < s.key then s.at s.curr s.link s.out.s
  else if d.v = s.key then s.present s.out.s
  else s.absent
def ListS.unlinked (s : ListS) (d : DoneS) : Bool × ListS :=
  if s.pc = 4 then s.at s.pred (arith .and .i64 s.link 4294967295) s.seen
  else if d.e ≠ 0 then s.again
  else (false, { s with seen := d.s, pc := 4 })
def ListS.joined (s : ListS) (d : DoneS) : Bool × ListS :=
  if s.pc = 5 then (if d.e ≠ 0 then s.fin d.e 0 d.s else (false, { s with node := d.h, pc := 6 }))
  else if s.pc = 6 then (false, { s with pc := 7 })
  else if s.pc = 7 then (false, { s with pc := 8 })
  else if d.e ≠ 0 then s.again
  else { s with node := 0 }.fin 0 1 d.s
def ListS.removed (s : ListS) (d : DoneS) : Bool × ListS :=
  if s.pc = 9 then (if d.e ≠ 0 then s.again else (false, { s with out := ⟨0, 0, 1, d.s⟩, pc := 10 }))
  else if s.pc = 10 then (decide (d.e ≠ 0), { s with pc := 11 })
  else (true, s)
def ListS.after (s : ListS) (d : DoneS) : Bool × ListS :=
  match s.pc with
  | 0 => s.looked d
  | 1 => s.looked d
  | 2 => s.looked d
  | 3 => s.unlinked d
  | 4 => s.unlinked d
  | 5 => s.joined d
  | 6 => s.joined d
  | 7 => s.joined d
  | 8 => s.joined d
  | _ => s.removed d
def ListS.acts (s : ListS) : Option ActS := match s.a with
  | some a => some a
  | none => if checkAct s.want then some (newAct s.want) else none
def ListS.step (s : ListS) (e : EnvS) (m : MemS) : Bool × ListS × MemS :=
  match s.acts with
  | some a => let r := a.step e m
    if r.1 then
      let q := { s with a := none }.after r.2.1.out
      (q.1, q.2, r.2.2)
    else (false, { s with a := some r.2.1 }, r.2.2)
  | none => let q := { s with a := none }.after ⟨1, 0, 0, 0⟩
    (q.1, q.2, m)

def DoerS.wf (c : Cfg) : DoerS → Prop
  | .alloc s => (s.pc = 2 → s.p.isSome = true ∧ ∀ p ∈ s.p, 0 ≤ p.cls) ∧ (s.pc = 3 → 0 ≤ classA s.size) ∧ (7 ≤ s.pc → s.give.isSome = true)
  | .drop s => (s.pc = 3 ∨ s.pc = 4 → s.help.isSome = true) ∧ (s.pc = 5 → 0 ≤ classA s.size ∧ c.words ≠ 0) ∧ (6 ≤ s.pc → s.give.isSome = true)
  | .access s => s.pc = 4 → s.help.isSome = true
def Cfg.cs (c : Cfg) : List VV := [.int .i64 c.threads, .int .i64 c.slots, .int .i64 c.chunks, .int .i64 c.words, .int .i64 c.gens, .int .i64 c.sparse, .int .i64 c.tries]
def EnvS.v (e : EnvS) (i : Nat) : VV := .agg [.int .i64 e.c.threads, .int .i64 e.c.slots, .int .i64 e.c.chunks, .int .i64 e.c.words, .int .i64 e.c.gens, .int .i64 e.c.sparse, .int .i64 e.c.tries, .ptr i 0, .int .i64 e.who]
def wcs (c : Nat × Int) : List VV := [.int .u64 c.1]
def ncs (c : Nat × Int) : List VV := [.int .i64 c.2]
def memU (m : MemS) : List VB := [.cells [.sl 1 1 0 m.cs.length m.cs.length, .sl 2 1 0 m.cs.length m.cs.length, .int .i64 m.steps, .int .i64 m.who, .int .i64 m.la, .int .i64 m.lw, .bool m.lc],
  .arr 1 (m.cs.map wcs) m.cs.length, .arr 1 (m.cs.map ncs) m.cs.length]
def optP (i : Nat) {α : Type} : Option α → VV
  | some _ => .ptr i 0
  | none => .nilPtr
def optB (W0 : World) {α : Type} (U : α → List VB) : Option α → VB
  | some x => bx W0 (U x)
  | none => .emp
theorem rn_optP {α : Type} (ρ : Nat → Nat) (i : Nat) (x : Option α) : rn ρ (optP i x) = optP (ρ i) x := by cases x <;> rfl
theorem rnB_optB {α : Type} (W0 : World) (ρ : Nat → Nat) (U : α → List VB) (x : Option α) : rnB ρ (optB W0 U x) = optB W0 U x := by cases x <;> rfl
def placeU (s : PlaceS) : List VB := [.cells [.int .i64 s.cls, .int .i64 s.pc, .int .u64 s.open_, .int .i64 s.at_, .int .u64 s.w, .int .i64 s.addr, .int .i64 s.chunk, .bool s.ok]]
def giveU (s : GiveS) : List VB := [.cells [.int .i64 s.pc, .int .i64 s.slot, .int .u64 s.top]]
def allocU (W0 : World) (s : AllocS) : List VB := [.cells [.int .i64 s.size, .bool s.own, .int .i64 s.pc, .int .i64 s.take.pc, .int .u64 s.take.top, .int .i64 s.take.next, .int .i64 s.take.slot, .bool s.take.ok,
    .int .i64 s.at_, .int .i64 s.gen, optP 1 s.p, .int .i64 s.addr, .int .i64 s.chunk, optP 2 s.give, .int .i64 s.out.e, .int .u64 s.out.h, .int .i64 s.out.v, .int .i64 s.out.s], optB W0 placeU s.p, optB W0 giveU s.give]
def helpU (s : HelpS) : List VB := [.cells [.int .i64 s.slot, .int .u64 s.w, .int .i64 s.size, .int .i64 s.i, .int .u64 s.cell, .bool s.read, .bool s.won]]
def dropU (W0 : World) (s : DropS) : List VB := [.cells [.int .u64 s.n, .bool s.own, .int .i64 s.h.slot, .int .i64 s.h.gen, .int .i64 s.pc, .int .u64 s.w, .int .i64 s.size, optP 1 s.help, optP 2 s.give,
    .int .i64 s.out.e, .int .u64 s.out.h, .int .i64 s.out.v, .int .i64 s.out.s], optB W0 helpU s.help, optB W0 giveU s.give]
def accessU (W0 : World) (s : AccessS) : List VB := [.cells [.int .i64 s.x.kind, .int .u64 s.x.handle, .int .i64 s.x.index, .int .i64 s.x.value, .int .i64 s.x.old, .bool s.own, .int .i64 s.h.slot, .int .i64 s.h.gen, .int .i64 s.pc,
    .int .u64 s.w, .int .u64 s.cell, .int .i64 s.seen, .int .i64 s.read, .int .i64 s.size, optP 1 s.help, .int .i64 s.out.e, .int .u64 s.out.h, .int .i64 s.out.v, .int .i64 s.out.s], optB W0 helpU s.help]
end Go.FL
