/- The arena, plainly: its words, its memory, where things stand, and whoever works in it, step by step. No program in sight. -/
import Derived.Test.YtglghdjpkecngaaGreatSLx
namespace Go.FL
set_option linter.unusedVariables false
set_option linter.unusedSimpArgs false
open Go Go.SL

abbrev w64 (z : Int) : Int := IntKind.i64.wrap z
def fitN (n : Int) (m : Nat) : Nat := Nat.min n.toNat m
structure HandleS where
  slot : Int
  gen : Int
deriving DecidableEq
structure SlotS where
  state : Int
  addr : Int
  gen : Int
  ver : Int
deriving DecidableEq
structure ChunkS where
  state : Int
  cls : Int
  used : Int
  stamp : Int
deriving DecidableEq
structure HeadS where
  kind : Int
  size : Int
  slot : Int
  gen : Int
  own : Bool
deriving DecidableEq
structure CellS where
  value : Int
  frozen : Bool
  ver : Int
deriving DecidableEq
def putHandle (h : HandleS) : Nat := fitN h.slot 65535 ||| fitN h.gen 65535 <<< 16
def handleOf (n : Nat) : HandleS × Bool := if n >>> 32 ≠ 0 ∨ n >>> 16 = 0 then (⟨0, 0⟩, false) else (⟨((n &&& 65535 : Nat) : Int), ((n >>> 16 : Nat) : Int)⟩, true)
def putSlot (s : SlotS) : Nat := fitN s.state 7 ||| fitN s.addr 1048575 <<< 3 ||| fitN s.gen 65535 <<< 23 ||| fitN s.ver 4194303 <<< 39
def slotOf (w : Nat) : SlotS := ⟨((w &&& 7 : Nat) : Int), ((w >>> 3 &&& 1048575 : Nat) : Int), ((w >>> 23 &&& 65535 : Nat) : Int), ((w >>> 39 &&& 4194303 : Nat) : Int)⟩
def putChunk (c : ChunkS) : Nat := fitN c.state 3 ||| fitN c.cls 63 <<< 2 ||| fitN c.used 1048575 <<< 8 ||| fitN c.stamp 68719476735 <<< 28
def chunkOf (w : Nat) : ChunkS := ⟨((w &&& 3 : Nat) : Int), ((w >>> 2 &&& 63 : Nat) : Int), ((w >>> 8 &&& 1048575 : Nat) : Int), ((w >>> 28 &&& 68719476735 : Nat) : Int)⟩
def putHead (h : HeadS) : Nat := let n := fitN h.kind 3 ||| fitN h.size 65535 <<< 2 ||| fitN h.slot 65535 <<< 18 ||| fitN h.gen 65535 <<< 34
  if h.own then n ||| 1125899906842624 else n
def headOf (w : Nat) : HeadS := ⟨((w &&& 3 : Nat) : Int), ((w >>> 2 &&& 65535 : Nat) : Int), ((w >>> 18 &&& 65535 : Nat) : Int), ((w >>> 34 &&& 65535 : Nat) : Int), Nat.beq (w >>> 50 &&& 1) 1⟩
def putCell (c : CellS) : Nat := if c.frozen then fitN c.value 1099511627775 ||| (9223372036854775808 ||| fitN c.ver 4194303 <<< 40) else fitN c.value 1099511627775
def cellOf (w : Nat) : CellS := ⟨((w &&& 1099511627775 : Nat) : Int), Nat.beq (w >>> 63) 1, if Nat.beq (w >>> 63) 1 then ((w >>> 40 &&& 4194303 : Nat) : Int) else 0⟩
def putTop (slot count : Int) : Nat := fitN (w64 (min slot 65535 + 1)) 65536 ||| fitN count 68719476735 <<< 17
def topSlot (w : Nat) : Int := ((w &&& 131071 : Nat) : Int) - 1
def topCount (w : Nat) : Int := ((w >>> 17 &&& 68719476735 : Nat) : Int)

structure MemS where
  cs : List (Nat × Int)
  steps : Int
  who : Int
  la : Int
  lw : Int
  lc : Bool
def MemS.inR (m : MemS) (a : Int) : Bool := decide (0 ≤ a) && decide (a < (m.cs.length : Int))
def MemS.at (m : MemS) (a : Int) : Nat × Int := m.cs.getD a.toNat (0, 0)
def MemS.tick (m : MemS) (a : Int) : MemS := { m with steps := w64 (m.steps + 1), la := a, lw := m.who, lc := false }
def MemS.lay (m : MemS) (a : Int) (w : Nat) : MemS :=
  let ch := !Nat.beq (m.at a).1 w
  { m with lc := ch, cs := m.cs.set a.toNat (w, if ch then m.steps else (m.at a).2) }
def MemS.by (m : MemS) (who : Int) : MemS := { m with who := who }
def MemS.ld (m : MemS) (a : Int) : Nat × MemS := if m.inR a then ((m.at a).1, m.tick a) else (0, m)
def MemS.st (m : MemS) (a : Int) (w : Nat) : MemS := if m.inR a then (m.tick a).lay a w else m
def MemS.cas (m : MemS) (a : Int) (old w : Nat) : Bool × MemS :=
  if m.inR a then (if Nat.beq (m.at a).1 old then (true, (m.tick a).lay a w) else (false, m.tick a)) else (false, m)
def MemS.add (m : MemS) (a : Int) (d : Int) : MemS := if m.inR a then (m.tick a).lay a (((m.at a).1 + d) % 18446744073709551616).toNat else m
def MemS.whenAt (m : MemS) (a : Int) : Int := if m.inR a then (m.at a).2 else 0

structure Cfg where
  threads : Int
  slots : Int
  chunks : Int
  words : Int
  gens : Int
  sparse : Int
  tries : Int
deriving DecidableEq
def slotA (c : Cfg) (i : Int) : Int := w64 (6 + c.threads + 2 * i)
def chunkA (c : Cfg) (i : Int) : Int := w64 (6 + c.threads + 2 * c.slots + 3 * i)
def baseA (c : Cfg) (i : Int) : Int := w64 (6 + c.threads + 2 * c.slots + 3 * c.chunks + c.words * i)
def lenA (c : Cfg) : Int := baseA c c.chunks
def pinA (t : Int) : Int := w64 (6 + t)
def openA (k : Int) : Int := w64 (2 + k)
def ofA (c : Cfg) (a : Int) : Int := if a < baseA c 0 ∨ a ≥ lenA c then -1 else w64 ((w64 (a - baseA c 0)).tdiv c.words)
def classA (z : Int) : Int := if z < 1 then -1 else if z ≤ 2 then 0 else if z ≤ 4 then 1 else if z ≤ 8 then 2 else if z ≤ 16 then 3 else -1
def roomA (k : Int) : Int := w64 (1 + IntKind.i64.wrap (2 * 2 ^ min k.toNat 64))
structure EnvS where
  c : Cfg
  who : Int

def eld (e : EnvS) (m : MemS) (a : Int) : Nat × MemS := (m.by e.who).ld a
def est (e : EnvS) (m : MemS) (a : Int) (w : Nat) : MemS := (m.by e.who).st a w
def ecas (e : EnvS) (m : MemS) (a : Int) (old w : Nat) : Bool × MemS := (m.by e.who).cas a old w
def eadd (e : EnvS) (m : MemS) (a d : Int) : MemS := (m.by e.who).add a d

structure InS where
  pc : Nat
  epoch : Nat
def inc64 (n : Nat) : Nat := (n + 1) % 18446744073709551616
def InS.step (s : InS) (e : EnvS) (m : MemS) : Bool × InS × MemS :=
  match s.pc with
  | 0 => let r := eld e m 0; (false, ⟨1, r.1⟩, r.2)
  | 1 => (false, ⟨2, s.epoch⟩, est e m (pinA e.who) (inc64 s.epoch))
  | _ => let r := eld e m 0; if Nat.beq r.1 s.epoch then (true, s, r.2) else (false, ⟨1, r.1⟩, r.2)
def outStep (e : EnvS) (m : MemS) : MemS := est e m (pinA e.who) 0

structure TakeS where
  pc : Nat
  top : Nat
  next : Int
  slot : Int
  ok : Bool
def TakeS.step (s : TakeS) (e : EnvS) (m : MemS) : Bool × TakeS × MemS :=
  match s.pc with
  | 0 => let r := eld e m 1; (decide (topSlot r.1 < 0), { s with pc := 1, top := r.1, slot := topSlot r.1 }, r.2)
  | 1 => let r := eld e m (w64 (slotA e.c s.slot + 1)); (s.ok, { s with pc := 2, next := topSlot r.1 }, r.2)
  | _ => let r := ecas e m 1 s.top (putTop s.next (w64 (topCount s.top + 1))); (r.1, { s with pc := 0, ok := r.1 }, r.2)
structure GiveS where
  pc : Nat
  slot : Int
  top : Nat
def GiveS.step (s : GiveS) (e : EnvS) (m : MemS) : Bool × GiveS × MemS :=
  match s.pc with
  | 0 => let r := eld e m 1; (false, { s with pc := 1, top := r.1 }, r.2)
  | 1 => (false, { s with pc := 2 }, est e m (w64 (slotA e.c s.slot + 1)) (putTop (topSlot s.top) 0))
  | _ => let r := ecas e m 1 s.top (putTop s.slot (w64 (topCount s.top + 1))); (r.1, { s with pc := 0 }, r.2)

structure PlaceS where
  cls : Int
  pc : Nat
  open_ : Nat
  at_ : Int
  w : Nat
  addr : Int
  chunk : Int
  ok : Bool
def PlaceS.fresh (s : PlaceS) : Nat := putChunk ⟨1, s.cls, 0, w64 ((chunkOf s.w).stamp + 1)⟩
def PlaceS.on (s : PlaceS) (e : EnvS) : Bool × PlaceS := (decide (w64 (s.at_ + 1) ≥ e.c.chunks), { s with at_ := w64 (s.at_ + 1), pc := 3 })
def PlaceS.get (s : PlaceS) (e : EnvS) (m : MemS) : Bool × PlaceS × MemS :=
  let c := chunkOf s.w
  let r := ecas e m (chunkA e.c s.at_) s.w (putChunk { c with used := w64 (c.used + roomA s.cls) })
  if r.1 then (true, { s with pc := 0, addr := w64 (baseA e.c s.at_ + c.used), chunk := s.at_, ok := true }, r.2) else (false, { s with pc := 0 }, r.2)
def PlaceS.step (s : PlaceS) (e : EnvS) (m : MemS) : Bool × PlaceS × MemS :=
  match s.pc with
  | 0 => let r := eld e m (openA s.cls); let a := w64 (IntKind.i64.wrap r.1 - 1)
    (false, if a < 0 then { s with open_ := r.1, at_ := 0, pc := 3 } else { s with open_ := r.1, at_ := a, pc := 1 }, r.2)
  | 1 => let r := eld e m (chunkA e.c s.at_); let c := chunkOf r.1
    (false, if c.state ≠ 1 ∨ c.cls ≠ s.cls ∨ w64 (c.used + roomA s.cls) > e.c.words then { s with w := r.1, at_ := 0, pc := 3 } else { s with w := r.1, pc := 2 }, r.2)
  | 2 => s.get e m
  | 3 => let r := eld e m (chunkA e.c s.at_); let s := { s with w := r.1 }
    if (chunkOf r.1).state ≠ 0 then ((s.on e).1, (s.on e).2, r.2) else (false, { s with pc := 4 }, r.2)
  | 4 => let r := ecas e m (chunkA e.c s.at_) s.w s.fresh
    if r.1 then (false, { s with pc := 5 }, r.2) else ((s.on e).1, (s.on e).2, r.2)
  | 5 => let r := ecas e m (openA s.cls) s.open_ (IntKind.u64.wrap (w64 (s.at_ + 1))).toNat
    (false, { s with pc := if r.1 then 0 else 6 }, r.2)
  | _ => let r := ecas e m (chunkA e.c s.at_) s.fresh (putChunk ⟨0, 0, 0, w64 ((chunkOf s.w).stamp + 2)⟩)
    (false, { s with pc := 0 }, r.2)

structure DoneS where
  e : Int
  h : Nat
  v : Int
  s : Int
deriving DecidableEq
structure AllocS where
  size : Int
  own : Bool
  pc : Nat
  take : TakeS
  at_ : Int
  gen : Int
  p : Option PlaceS
  addr : Int
  chunk : Int
  give : Option GiveS
  out : DoneS
def newAlloc (size : Int) (own : Bool) : AllocS := ⟨size, own, 0, ⟨0, 0, 0, 0, false⟩, 0, 0, none, 0, 0, none, ⟨0, 0, 0, 0⟩⟩
def AllocS.head (s : AllocS) (kind : Int) : Nat := putHead ⟨kind, s.size, s.at_, s.gen, s.own⟩
def place0 : PlaceS := ⟨0, 0, 0, 0, 0, 0, 0, false⟩
def give0 : GiveS := ⟨0, 0, 0⟩
def AllocS.step (s : AllocS) (e : EnvS) (m : MemS) : Bool × AllocS × MemS :=
  match s.pc with
  | 0 => if classA s.size < 0 then (true, { s with out := ⟨5, 0, 0, m.steps⟩ }, m) else
    let r := s.take.step e m
    if r.1 then
      (if r.2.1.ok then (false, { s with take := r.2.1, at_ := r.2.1.slot, pc := 1 }, r.2.2)
       else (true, { s with take := r.2.1, at_ := 0, pc := 1, out := ⟨7, 0, 0, r.2.2.steps⟩ }, r.2.2))
    else (false, { s with take := r.2.1 }, r.2.2)
  | 1 => let r := eld e m (slotA e.c s.at_)
    (false, { s with gen := (slotOf r.1).gen, pc := 2, p := some { place0 with cls := classA s.size } }, r.2)
  | 2 => let r := (s.p.getD place0).step e m; let s := { s with p := some r.2.1 }
    if r.1 then
      (if r.2.1.ok then (false, { s with addr := r.2.1.addr, chunk := r.2.1.chunk, pc := 3 }, r.2.2)
       else (false, { s with addr := 0, chunk := 0, pc := 7, out := ⟨6, 0, 0, r.2.2.steps⟩, give := some { give0 with slot := s.at_ } }, r.2.2))
    else (false, s, r.2.2)
  | 3 => (false, { s with pc := 4 }, eadd e m (w64 (chunkA e.c s.chunk + 1)) (roomA (classA s.size)))
  | 4 => (false, { s with pc := 5 }, est e m s.addr (s.head 1))
  | 5 => let m := est e m (slotA e.c s.at_) (putSlot ⟨1, s.addr, s.gen, 0⟩)
    (false, { s with pc := 6, out := ⟨0, putHandle ⟨s.at_, s.gen⟩, 0, m.steps⟩ }, m)
  | 6 => (true, s, est e m s.addr (s.head 2))
  | _ => let r := (s.give.getD give0).step e m
    (r.1, { s with give := some r.2.1 }, r.2.2)

def live (s : SlotS) (h : HandleS) : Bool := (decide (s.state = 1) || decide (s.state = 2) || decide (s.state = 4)) && decide (s.gen = h.gen)
structure HelpS where
  slot : Int
  w : Nat
  size : Int
  i : Int
  cell : Nat
  read : Bool
  won : Bool
def newHelp (slot : Int) (w : Nat) (size : Int) : HelpS := ⟨slot, w, size, 0, 0, false, false⟩
def HelpS.step (s : HelpS) (e : EnvS) (m : MemS) : Bool × HelpS × MemS :=
  let x := slotOf s.w
  let at_ := w64 (x.addr + 1 + s.i)
  if s.i ≥ s.size then
    let r := ecas e m (slotA e.c s.slot) s.w (putSlot (if x.gen ≥ e.c.gens then ⟨3, 0, x.gen, 0⟩ else ⟨0, 0, w64 (x.gen + 1), 0⟩))
    (true, { s with won := r.1 }, r.2)
  else if s.read then
    let r := ecas e m at_ s.cell (putCell ⟨(cellOf s.cell).value, true, x.ver⟩)
    (false, if r.1 then { s with read := false, i := w64 (s.i + 1) } else { s with read := false }, r.2)
  else
    let r := eld e m at_
    let c := cellOf r.1
    (false, if c.frozen && decide (c.ver = x.ver) then { s with cell := r.1, read := false, i := w64 (s.i + 1) } else { s with cell := r.1, read := true }, r.2)
def help0 : HelpS := newHelp 0 0 0

structure DropS where
  n : Nat
  own : Bool
  h : HandleS
  pc : Nat
  w : Nat
  size : Int
  help : Option HelpS
  give : Option GiveS
  out : DoneS
def newDrop (n : Nat) (own : Bool) : DropS := ⟨n, own, ⟨0, 0⟩, 0, 0, 0, none, none, ⟨0, 0, 0, 0⟩⟩
def DropS.step (s : DropS) (e : EnvS) (m : MemS) : Bool × DropS × MemS :=
  match s.pc with
  | 0 => let q := handleOf s.n
    let s := { s with h := q.1 }
    if q.2 = false ∨ q.1.slot ≥ e.c.slots then (true, { s with out := ⟨3, 0, 0, m.steps⟩ }, m) else
    let r := eld e m (slotA e.c q.1.slot)
    let s := { s with w := r.1 }
    if live (slotOf r.1) q.1 then (false, { s with pc := 1 }, r.2) else (true, { s with out := ⟨3, 0, 0, r.2.steps⟩ }, r.2)
  | 1 => let r := eld e m (slotOf s.w).addr
    let x := headOf r.1
    if x.own ≠ s.own then (true, { s with out := ⟨3, 0, 0, r.2.steps⟩ }, r.2)
    else if (slotOf s.w).state = 4 then (false, { s with size := x.size, help := some (newHelp s.h.slot s.w x.size), pc := 4 }, r.2)
    else (false, { s with size := x.size, pc := 2 }, r.2)
  | 2 => let x := slotOf s.w
    let w := putSlot { x with state := 4, ver := w64 (x.ver + 1) }
    let r := ecas e m (slotA e.c s.h.slot) s.w w
    (false, if r.1 then { s with help := some (newHelp s.h.slot w s.size), pc := 3 } else { s with pc := 0 }, r.2)
  | 3 => let r := (s.help.getD help0).step e m
    let s := { s with help := some r.2.1 }
    if r.1 then (false, { s with out := ⟨0, 0, 0, r.2.2.whenAt (slotA e.c s.h.slot)⟩, pc := 5 }, r.2.2) else (false, s, r.2.2)
  | 4 => let r := (s.help.getD help0).step e m
    let s := { s with help := some r.2.1 }
    (false, if r.1 then { s with pc := 0 } else s, r.2.2)
  | 5 => (decide (s.h.gen ≥ e.c.gens), { s with give := some { give0 with slot := s.h.slot }, pc := 6 },
      eadd e m (w64 (chunkA e.c (ofA e.c (slotOf s.w).addr) + 1)) (w64 (-roomA (classA s.size))))
  | _ => let r := (s.give.getD give0).step e m
    (r.1, { s with give := some r.2.1 }, r.2.2)

structure WantS where
  kind : Int
  handle : Nat
  index : Int
  value : Int
  old : Int
structure AccessS where
  x : WantS
  own : Bool
  h : HandleS
  pc : Nat
  w : Nat
  cell : Nat
  seen : Int
  read : Int
  size : Int
  help : Option HelpS
  out : DoneS
def newAccess (x : WantS) (own : Bool) : AccessS := ⟨x, own, ⟨0, 0⟩, 0, 0, 0, 0, 0, 0, none, ⟨0, 0, 0, 0⟩⟩
def AccessS.at (s : AccessS) : Int := w64 ((slotOf s.w).addr + 1 + s.x.index)
def AccessS.next (s : AccessS) : Nat :=
  let c := cellOf s.cell
  let x := slotOf s.w
  if s.x.kind = 1 ∨ (s.x.kind = 3 ∧ c.value ≠ s.x.old) then 6
  else if x.state = 4 then 4
  else if c.frozen = false ∨ c.ver < x.ver then 5
  else if c.ver = x.ver ∧ x.state = 2 then 3
  else 0
def AccessS.step (s : AccessS) (e : EnvS) (m : MemS) : Bool × AccessS × MemS :=
  match s.pc with
  | 0 => let q := handleOf s.x.handle
    let s := { s with h := q.1 }
    if q.2 = false ∨ q.1.slot ≥ e.c.slots then (true, { s with out := ⟨3, 0, 0, m.steps⟩ }, m) else
    let r := eld e m (slotA e.c q.1.slot)
    let s := { s with w := r.1, seen := r.2.steps, pc := 1 }
    if live (slotOf r.1) q.1 then (false, s, r.2) else (true, { s with out := ⟨3, 0, 0, r.2.steps⟩ }, r.2)
  | 1 => let r := eld e m (slotOf s.w).addr
    let x := headOf r.1
    let s := { s with size := x.size, pc := 2 }
    if x.own ≠ s.own then (true, { s with out := ⟨3, 0, 0, r.2.steps⟩ }, r.2)
    else if s.x.index < 0 ∨ s.x.index ≥ x.size then (true, { s with out := ⟨4, 0, 0, s.seen⟩ }, r.2)
    else (false, s, r.2)
  | 2 => let r := eld e m s.at
    let s := { s with cell := r.1, read := r.2.steps }
    let s := { s with pc := s.next }
    (false, if s.pc = 4 then { s with help := some (newHelp s.h.slot s.w s.size) } else s, r.2)
  | 3 => let x := slotOf s.w
    let r := ecas e m (slotA e.c s.h.slot) s.w (putSlot { x with state := 1, ver := w64 (x.ver + 1) })
    (false, { s with pc := 0 }, r.2)
  | 4 => let r := (s.help.getD help0).step e m
    let s := { s with help := some r.2.1 }
    (false, if r.1 then { s with pc := 0 } else s, r.2.2)
  | 5 => let r := ecas e m s.at s.cell (putCell ⟨s.x.value, false, 0⟩)
    let s := { s with pc := 0 }
    if r.1 then (true, { s with out := ⟨0, 0, (cellOf s.cell).value, r.2.steps⟩ }, r.2) else (false, s, r.2)
  | _ => let r := eld e m (slotA e.c s.h.slot)
    let x := slotOf r.1
    let value := (cellOf s.cell).value
    if live x s.h = false then (true, { s with out := ⟨3, 0, 0, r.2.steps⟩ }, r.2)
    else if x.addr ≠ (slotOf s.w).addr then (false, { s with pc := 0 }, r.2)
    else if s.x.kind = 3 then (true, { s with out := ⟨8, 0, value, s.read⟩ }, r.2)
    else (true, { s with out := ⟨0, 0, value, s.read⟩ }, r.2)

structure ActX where
  kind : Int
  size : Int
  handle : Nat
  index : Int
  value : Int
  old : Int
  own : Bool
inductive DoerS where
  | alloc (s : AllocS)
  | drop (s : DropS)
  | access (s : AccessS)
def DoerS.step (d : DoerS) (e : EnvS) (m : MemS) : Bool × DoerS × MemS :=
  match d with
  | .alloc s => let r := s.step e m; (r.1, .alloc r.2.1, r.2.2)
  | .drop s => let r := s.step e m; (r.1, .drop r.2.1, r.2.2)
  | .access s => let r := s.step e m; (r.1, .access r.2.1, r.2.2)
def DoerS.done : DoerS → DoneS
  | .alloc s => s.out
  | .drop s => s.out
  | .access s => s.out
structure ActS where
  i : InS
  pc : Nat
  work : DoerS
  out : DoneS
def checkAct (x : ActX) : Bool :=
  let v := decide (x.value ≥ 0) && decide (x.value ≤ 1099511627775) && decide (x.old ≥ 0) && decide (x.old ≤ 1099511627775)
  decide (x.kind ≥ 1) && decide (x.kind ≤ 5) && v
def doerOf (x : ActX) : DoerS :=
  if x.kind = 1 then .alloc (newAlloc x.size x.own)
  else if x.kind = 2 then .drop (newDrop x.handle x.own)
  else .access (newAccess ⟨w64 (w64 (x.kind - 3) + 1), x.handle, x.index, x.value, x.old⟩ x.own)
def newAct (x : ActX) : ActS := ⟨⟨0, 0⟩, 0, doerOf x, ⟨0, 0, 0, 0⟩⟩
def ActS.step (s : ActS) (e : EnvS) (m : MemS) : Bool × ActS × MemS :=
  match s.pc with
  | 0 => let r := s.i.step e m
    (false, if r.1 then { s with i := r.2.1, pc := 1 } else { s with i := r.2.1 }, r.2.2)
  | 1 => let r := s.work.step e m
    (false, if r.1 then { s with work := r.2.1, out := r.2.1.done, pc := 2 } else { s with work := r.2.1 }, r.2.2)
  | _ => (true, s, outStep e m)
end Go.FL
