/- Texts of one claim, laid into one: EA EK. -/
import Derived.Test.YtglghdjpkecngaaGreatBI
set_option linter.unusedVariables false
set_option linter.unusedSimpArgs false
/- A worker, plainly; how it lies. No program in sight. -/
namespace Go.FL
set_option linter.unusedVariables false
set_option linter.unusedSimpArgs false
open Go Go.SL
structure CallS where
  kind : Int
  size : Int
  who : Int
  at_ : Int
  raw : Nat
  index : Int
  value : Int
  old : Int
  key : Int
def CallS.cs (c : CallS) : List VV := [.int .i64 c.kind, .int .i64 c.size, .int .i64 c.who, .int .i64 c.at_, .int .u64 c.raw, .int .i64 c.index, .int .i64 c.value, .int .i64 c.old, .int .i64 c.key]
structure ToldS where
  who : Int
  at_ : Int
  call : CallS
  h : Nat
  done : DoneS
  began : Int
  ended : Int
def ToldS.cs (t : ToldS) : List VV := [.int .i64 t.who, .int .i64 t.at_, .int .i64 t.call.kind, .int .i64 t.call.size, .int .i64 t.call.who, .int .i64 t.call.at_, .int .u64 t.call.raw, .int .i64 t.call.index, .int .i64 t.call.value, .int .i64 t.call.old, .int .i64 t.call.key,
  .int .u64 t.h, .int .i64 t.done.e, .int .u64 t.done.h, .int .i64 t.done.v, .int .i64 t.done.s, .int .i64 t.began, .int .i64 t.ended]
inductive DoS where
  | act (a : ActS)
  | list (l : ListS)
def DoS.step (e : EnvS) (m : MemS) : DoS → Bool × DoS × MemS
  | .act a => let r := a.step e m; (r.1, .act r.2.1, r.2.2)
  | .list l => let r := l.step e m; (r.1, .list r.2.1, r.2.2)
def DoS.done : DoS → DoneS
  | .act a => a.out
  | .list l => l.out
def DoS.wfb (c : Cfg) : DoS → Bool
  | .act a => a.wfb c
  | .list l => l.wfb c
def actOf (c : CallS) (h : Nat) : ActX := ⟨c.kind, c.size, h, c.index, c.value, c.old, false⟩
def checkCall (c : CallS) : Bool :=
  if c.kind < 1 ∨ 8 < c.kind then false else if 6 ≤ c.kind then checkList (c.kind - 5) c.key else checkAct (actOf c 0)
def badCall (n : Nat) (c : CallS) : Bool := !checkCall c || (decide (6 ≤ c.kind) && decide (n = 0))
structure WorkerS where
  me : Int
  l : List CallS
  q : List Int
  at_ : Int
  h : Nat
  work : Option DoS
  began : Int
  told : List ToldS
def ofK (key l : Int) : Int := if l < 1 then 0 else (key % 4294967296 * 2654435769) % 4294967296 % l
def headOf2 (hs : List Nat) (key : Int) : Nat := hs[(ofK key hs.length).toNat]?.getD 0
def doOf (hs : List Nat) (c : CallS) (h : Nat) : DoS := if 6 ≤ c.kind then .list (newList (c.kind - 5) c.key (headOf2 hs c.key)) else .act (newAct (actOf c h))
abbrev MadeF := CallS → List ToldS → Nat
def hOf (f : MadeF) (told : List ToldS) (c : CallS) : Nat := if 6 ≤ c.kind ∨ c.kind = 1 then 0 else f c told
def WorkerS.begin (s : WorkerS) (hs : List Nat) (f : MadeF) (now : Int) : Option WorkerS :=
  match s.q with
  | [] => none
  | a :: q => match s.l[a.toNat]? with
    | none => none
    | some c => some { s with q := q, at_ := a, began := now, h := hOf f s.told c, work := some (doOf hs c (hOf f s.told c)) }
def WorkerS.next (s : WorkerS) (hs : List Nat) (f : MadeF) (now : Int) : Option WorkerS := match s.work with
  | some _ => some s
  | none => s.begin hs f now
def call0 : CallS := ⟨0, 0, 0, 0, 0, 0, 0, 0, 0⟩
def WorkerS.go (s : WorkerS) (e : EnvS) (d : DoS) (m : MemS) : WorkerS × MemS :=
  let r := d.step e m
  if r.1 then ({ s with work := none, told := s.told ++ [⟨s.me, s.at_, s.l[s.at_.toNat]?.getD call0, s.h, r.2.1.done, s.began, r.2.2.steps⟩] }, r.2.2)
  else ({ s with work := some r.2.1 }, r.2.2)
def WorkerS.step (s : WorkerS) (e : EnvS) (hs : List Nat) (f : MadeF) (m : MemS) : Bool × WorkerS × MemS := match s.next hs f m.steps with
  | none => (false, s, m)
  | some t => match t.work with
    | none => (false, s, m)
    | some d => let r := t.go e d m; (true, r.1, r.2)
def WorkerS.ended (s : WorkerS) : Bool := s.work.isNone && s.q.isEmpty
def WorkerS.wfb (s : WorkerS) (c : Cfg) : Bool := match s.work with
  | some d => d.wfb c
  | none => true
def madeAt (at_ : Int) (told : List ToldS) : Nat := if at_ < 0 then 0 else match told[at_.toNat]? with
  | some t => t.done.h
  | none => 0
def newWorker (me : Int) (l : List CallS) : WorkerS := ⟨me, l, (List.range l.length).map fun i : Nat => (i : Int), 0, 0, none, 0, []⟩
def mayWork (me : Int) (l : List CallS) (n : Nat) : Bool := decide (0 ≤ me) && decide (me < 8) && decide (l.length ≤ 64) && !l.any (badCall n)
def workRun (e : EnvS) (hs : List Nat) (f : MadeF) : Nat → WorkerS → MemS → Option (WorkerS × MemS)
  | 0, s, m => some (s, m)
  | n + 1, s, m => if s.ended then some (s, m) else if s.wfb e.c then workRun e hs f n (s.step e hs f m).2.1 (s.step e hs f m).2.2 else none
def slV (es : Nat) {α : Type} (xs : List α) (i j : Nat) : VV := match xs with
  | [] => .nilSl
  | _ :: _ => .sl i es 0 xs.length (.v j)
def slB (es : Nat) {α : Type} (f : α → List VV) (xs : List α) (j : Nat) : VB := match xs with
  | [] => .emp
  | _ :: _ => .arr es (xs.map f) (.v j)
def slN {α : Type} (xs : List α) : VB := match xs with
  | [] => .emp
  | _ :: _ => .num
def workC (s : WorkerS) (lv qv sv wv tv : VV) : VB := .cells [.int .i64 s.me, lv, qv, sv, .int .i64 s.at_, .int .u64 s.h, wv, .int .i64 s.began, tv]
end Go.FL

/- Workers in a fresh arena, plainly: closed runs. No program in sight. -/
namespace Go.FL
open Go Go.SL
def arena18 : EnvS := arena 1 30 16 40
def begun18 : Option (List Nat × MemS) := match freshShelf arena18 3 (freshM arena18.c) with
  | none => none
  | some (x, hs, m) => if x = 0 then some (hs, m) else none
def nobodyF : MadeF := fun _ _ => 0
def callA : CallS := ⟨1, 2, 0, 0, 0, 0, 0, 0, 0⟩
def callK : CallS := ⟨7, 0, 0, 0, 0, 0, 0, 0, 7⟩
def awake18 : Bool := match begun18 with
  | none => false
  | some (hs, m) => match workRun arena18 hs nobodyF 500 (newWorker 0 [callA, callK]) m with
    | none => false
    | some (s, _) => match s.told with
      | [a, b] => decide (hs.length = 3) && decide (a.done.e = 0) && decide (madeAt 0 s.told = a.done.h) && decide (b.done.v = 1) && s.work.isNone
      | _ => false
theorem awake18_ok : awake18 = true := by decide +kernel
end Go.FL

