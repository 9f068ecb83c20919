/- A fresh arena, an act alone, a list begun, something asked of it: what they come to. -/
import Derived.Test.YtglghdjpkecngaaGreatAZ
import Derived.Test.YtglghdjpkecngaaGreatBA
namespace Go.Proofs.YtglghdjpkecngaaGreat
set_option linter.unusedVariables false
set_option linter.unusedSimpArgs false
open Go Go.SL Go.FL
set_option maxRecDepth 100000
theorem Arena_ev {W0 : World} (t s c w : Int) (hc : CfgOk (arena t s c w).c) : Ev Tryz.prog W0 36 [.int .i64 t, .int .i64 s, .int .i64 c, .int .i64 w] [] (fun v V' => v = .tup [(arena t s c w).v 0, .bool true] ∧ V' = [bx W0 (memU (freshM (arena t s c w).c))]) := by
  refine Ev.out fun Q' hQ => ev36 rfl fun o => ?_
  have hE : (arena t s c w).v 0 = .agg [.int .i64 t, .int .i64 s, .int .i64 c, .int .i64 w, .int .i64 100, .int .i64 600, .int .i64 3, .ptr 0 0, .int .i64 0] := rfl
  cbv
  refine Ops.call _ [] (Fresh_ev (arena t s c w).c hc) rfl rfl rfl trivial ?_
  rintro v V' ⟨rfl, rfl⟩
  simp only [layB, lapp, List.map_cons, List.map_nil, rnB_bx]
  generalize hM : bx W0 (memU (freshM (arena t s c w).c)) = M
  cbv
  simp only [Ops.cmp_eq, icmp]
  refine hQ _ _ (ReV.ren [2] (.tup [(arena t s c w).v 0, .bool true]) [M] rfl rfl ?_ ⟨.inr (by rw [← hM]; rfl), trivial⟩ ⟨rfl, by rw [hM]⟩)
  rw [hE]; rfl
def envC (e : EnvS) (i : Nat) : VB := .cells [.int .i64 e.c.threads, .int .i64 e.c.slots, .int .i64 e.c.chunks, .int .i64 e.c.words, .int .i64 e.c.gens, .int .i64 e.c.sparse, .int .i64 e.c.tries, .ptr i 0, .int .i64 e.who]
theorem arenaOk {t s c w : Int} (t0 : 1 ≤ t) (t1 : t ≤ 8) (s0 : 1 ≤ s) (s1 : s ≤ 65536) (c0 : 1 ≤ c) (c1 : c ≤ 64) (w0 : 17 ≤ w) (w1 : w ≤ 256) : CfgOk (arena t s c w).c := by
  constructor <;> simp only [arena] <;> omega
end Go.Proofs.YtglghdjpkecngaaGreat
