/- shelf: which list a key is in. -/
import Derived.Test.YtmkoagmnkogeoaaIRs
import Derived.Test.YtmkoagmnkogeoaaSLt
namespace Go.Proofs.Ytmkoagmnkogeoaa
set_option linter.unusedVariables false
set_option linter.unusedSimpArgs false
open Go Go.SL
set_option maxRecDepth 100000
def ofS (key l : Int) : Int := if l < 1 then 0 else (key % 4294967296 * 2654435769) % 4294967296 % l
theorem ofS_lt {key l : Int} (h : 1 ≤ l) : 0 ≤ ofS key l ∧ ofS key l < l := by
  unfold ofS
  rw [if_neg (by omega)]
  exact ⟨Int.emod_nonneg _ (by omega), Int.emod_lt_of_pos _ (by omega)⟩
theorem tmod_pos {a b : Int} (h : 0 ≤ a) : a.tmod b = a % b := Int.tmod_eq_emod_of_nonneg h
theorem Of_ev {W0 : World} (key l : Int) (hl : l ≤ 65535) : Ev Try.prog W0 5 [.int .i64 key, .int .i64 l] [] (fun v V' => v = .int .i64 (ofS key l) ∧ V' = []) := by
  refine Ev.out fun Q' hQ => ev5 rfl fun o => ?_
  (cbv; repeat' (refine mt (fun _ => ?_) (fun _ => ?_) <;> cbv))
  · rename_i h
    have h1 : l < 1 := by simpa [o.cmp_eq, icmp] using h
    exact hQ _ _ (ReV.none rfl ⟨by rw [ofS, if_pos h1], rfl⟩)
  · rename_i h
    have h1 : ¬ l < 1 := by simpa [o.cmp_eq, icmp] using h
    have e1 : IntKind.u32.wrap l = l := by rw [IntKind.wrap_u32]; omega
    simp only [o.wr_eq, o.ar_eq, o.need_eq, arith, needs]
    rw [e1]
    simp only [IntKind.wrap_u32]
    rw [IntKind.wrap_u32] at e1
    refine ⟨by simp; omega, ?_⟩
    refine hQ _ _ (ReV.none rfl ⟨?_, rfl⟩)
    congr 1
    have hb := ofS_lt (key := key) (show 1 ≤ l by omega)
    rw [ofS, if_neg h1] at hb
    rw [ofS, if_neg h1, tmod_pos (Int.emod_nonneg _ (by omega)), wrap64 (by omega) (by omega)]
theorem u64w (n : Int) : IntKind.u64.wrap n = n % 18446744073709551616 := by simp [IntKind.wrap, IntKind.bits, IntKind.signed]
theorem lawOf_ev {W0 : World} (key l : Int) (hl : l ≤ 65535) : Ev Try.prog W0 7 [.int .i64 key, .int .i64 l] [] (fun v V' => v = .int .i64 (ofS key l) ∧ V' = []) := by
  refine Ev.out fun Q' hQ => ev7 rfl fun o => ?_
  (cbv; repeat' (refine mt (fun _ => ?_) (fun _ => ?_) <;> cbv))
  · rename_i h
    have h1 : l < 1 := by simpa [o.cmp_eq, icmp] using h
    exact hQ _ _ (ReV.none rfl ⟨by rw [ofS, if_pos h1], rfl⟩)
  · rename_i h
    have h1 : ¬ l < 1 := by simpa [o.cmp_eq, icmp] using h
    have hb := ofS_lt (key := key) (show 1 ≤ l by omega)
    rw [ofS, if_neg h1] at hb
    simp only [o.wr_eq, o.ar_eq, o.need_eq, arith, needs, u64w]
    have e1 : (l % 18446744073709551616).tmod 4294967296 = l := by rw [tmod_pos (by omega)]; omega
    have e2 : (key % 18446744073709551616).tmod 4294967296 = key % 4294967296 := by rw [tmod_pos (by omega)]; omega
    rw [e1, e2]
    have e3 : (key % 4294967296 * 2654435769 % 18446744073709551616).tmod 4294967296 = key % 4294967296 * 2654435769 % 4294967296 := by rw [tmod_pos (by omega)]; omega
    rw [e3, tmod_pos (a := key % 4294967296 * 2654435769 % 4294967296) (by omega), wrap64 (by omega) (by omega)]
    refine ⟨rfl, rfl, rfl, by simp; omega, ?_⟩
    exact hQ _ _ (ReV.none rfl ⟨by rw [ofS, if_neg h1], rfl⟩)
end Go.Proofs.Ytmkoagmnkogeoaa
