/- A fresh arena, plainly. No program in sight. -/
import Derived.Test.YtglghdjpkecngaaGreatAX
namespace Go.FL
open Go Go.SL
def newMem (n : Nat) : MemS := ⟨List.replicate n (0, 0), 0, 0, 0, 0, false⟩
def frStep (c : Cfg) (m : MemS) (i : Nat) : MemS := (m.st (slotA c i) (putSlot ⟨0, 0, 1, 0⟩)).st (w64 (slotA c i + 1)) (putTop (w64 (i + 1)) 0)
def frTo (c : Cfg) (m : MemS) (n : Nat) : MemS := (List.range n).foldl (frStep c) m
def freshM (c : Cfg) : MemS := ((frTo c (newMem (lenA c).toNat) c.slots.toNat).st (w64 (slotA c (w64 (c.slots - 1)) + 1)) (putTop (-1) 0)).st 1 (putTop 0 0)
theorem frTo_succ (c : Cfg) (m : MemS) (n : Nat) : frTo c m (n + 1) = frStep c (frTo c m n) n := by simp [frTo, List.range_succ]
structure CfgOk (c : Cfg) : Prop where
  t0 : 1 ≤ c.threads
  t1 : c.threads ≤ 8
  s0 : 1 ≤ c.slots
  s1 : c.slots ≤ 65536
  c0 : 1 ≤ c.chunks
  c1 : c.chunks ≤ 64
  w0 : 17 ≤ c.words
  w1 : c.words ≤ 256
  g0 : 1 ≤ c.gens
  g1 : c.gens ≤ 65535
  p0 : 0 ≤ c.sparse
  p1 : c.sparse ≤ 1000
  r0 : 1 ≤ c.tries
  r1 : c.tries ≤ 16
end Go.FL
