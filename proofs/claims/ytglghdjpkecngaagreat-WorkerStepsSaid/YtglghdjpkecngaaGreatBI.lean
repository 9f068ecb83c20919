/- shelf: a few lists, plainly; how a shelf lies. No program in sight. -/
import Derived.Test.YtglghdjpkecngaaGreatBA
namespace Go.FL
open Go Go.SL
def actTill (e : EnvS) : Nat → ActS → MemS → Option (ActS × MemS)
  | 0, _, _ => none
  | n + 1, a, m => if a.wfb e.c then let r := a.step e m; if r.1 then some (r.2.1, r.2.2) else actTill e n r.2.1 r.2.2 else none
@[irreducible] def nodeFuel : Nat := 2000
def nodeX : ActX := ⟨1, 2, 0, 0, 0, 0, true⟩
def shelfRun (e : EnvS) : Nat → List Nat → MemS → Option (Int × List Nat × MemS)
  | 0, hs, m => some (0, hs, m)
  | n + 1, hs, m => match actTill e nodeFuel (newAct nodeX) m with
    | none => none
    | some (a, m) => if a.out.e = 0 then shelfRun e n (hs ++ [a.out.h]) m else some (a.out.e, hs, m)
def freshShelf (e : EnvS) (lists : Int) (m : MemS) : Option (Int × List Nat × MemS) :=
  if lists < 0 ∨ 8 < lists then some (1, [], m) else shelfRun e lists.toNat [] m
def headV (hs : List Nat) (i j : Nat) : VV := match hs with
  | [] => .nilSl
  | _ :: _ => .sl i 1 0 hs.length (.v j)
def headB (hs : List Nat) (j : Nat) : VB := match hs with
  | [] => .emp
  | _ :: _ => .arr 1 (hs.map fun h : Nat => [.int .u64 (h : Int)]) (.v j)
def numB (hs : List Nat) : VB := match hs with
  | [] => .emp
  | _ :: _ => .num
def shelfU (hs : List Nat) : List VB := [.cells [headV hs 1 2], headB hs 2, numB hs]
end Go.FL
