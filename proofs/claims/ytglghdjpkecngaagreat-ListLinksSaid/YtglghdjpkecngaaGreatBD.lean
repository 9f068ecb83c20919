/- list: links. -/
import Derived.Test.YtglghdjpkecngaaGreatBC
import Derived.Test.YtglghdjpkecngaaGreatBE
namespace Go.Proofs.YtglghdjpkecngaaGreat
set_option linter.unusedVariables false
set_option linter.unusedSimpArgs false
open Go Go.SL Go.FL
set_option maxRecDepth 100000
structure LinkS where
  next : Nat
  gone : Bool
def LinkS.cs (l : LinkS) : List VV := [.int .u64 l.next, .bool l.gone]
theorem ListLinks_ev {W0 : World} (next : Nat) (gone : Bool) (n : Int) : Ev Tryz.prog W0 3 [.agg [.int .u64 next, .bool gone], .int .i64 n] [] (fun v V' => v = .bool true ∧ V' = []) := by
  refine Ev.out fun Q' hQ => ev3 rfl fun o => ?_
  (cbv; repeat' (first | (refine ⟨by simp only [Ops.need_eq, needs]; first | rfl | decide, ?_⟩; try cbv) | (refine mt (fun h => ?_) (fun h => ?_) <;> first | (exfalso; simp [Ops.cmp_eq, Ops.not_eq, icmp] at h; done) | (exfalso; simp [Ops.cmp_eq, icmp] at h; omega) | (try cbv))))
  simp only [Ops.ar_eq, Int.ofNat_eq_natCast, and64o (m := 4294967295) (by decide), andIo (m := 8589934591) (by decide)]
  have hN : next &&& 4294967295 ≤ 4294967295 := Nat.and_le_right
  generalize next &&& 4294967295 = N at *
  have hV : u64i n &&& 8589934591 ≤ 8589934591 := Nat.and_le_right
  generalize u64i n &&& 8589934591 = V at *
  refine Ops.call0 _ awake16_ev rfl ?_
  rintro v V' ⟨rfl, rfl⟩
  simp only [lapp, List.map_nil, rn, rnL]
  (cbv; repeat' (first | (refine ⟨by simp only [Ops.need_eq, needs]; first | rfl | decide, ?_⟩; try cbv) | (refine mt (fun h => ?_) (fun h => ?_) <;> first | (exfalso; simp [Ops.cmp_eq, Ops.not_eq, icmp] at h; done) | (exfalso; simp [Ops.cmp_eq, icmp] at h; omega) | (try cbv))))
  obtain ⟨hl1, hl2⟩ := link_put (N := N) (by omega) gone
  have hle := put_le N gone
  have hpl := put_link (V := V) (by omega)
  refine Ops.call0 _ (PutLink_ev N gone) rfl ?_; rintro v V' ⟨rfl, rfl⟩; simp only [lapp, List.map_nil, rn, rnL]
  generalize hp : putLink N gone = p at *
  (cbv; repeat' (first | (refine ⟨by simp only [Ops.need_eq, needs]; first | rfl | decide, ?_⟩; try cbv) | (refine mt (fun h => ?_) (fun h => ?_) <;> first | (exfalso; simp [Ops.cmp_eq, Ops.not_eq, icmp] at h; done) | (exfalso; simp [Ops.cmp_eq, icmp] at h; omega) | (try cbv))))
  refine Ops.call0 _ (Link_ev p) rfl ?_; rintro v V' ⟨rfl, rfl⟩; simp only [lapp, List.map_nil, rn, rnL]
  rw [hl1, hl2]
  (cbv; repeat' (first | (refine ⟨by simp only [Ops.need_eq, needs]; first | rfl | decide, ?_⟩; try cbv) | (refine mt (fun h => ?_) (fun h => ?_) <;> first | (exfalso; simp [Ops.cmp_eq, Ops.not_eq, icmp] at h; done) | (exfalso; simp [Ops.cmp_eq, icmp] at h; omega) | (try cbv))))
  · refine Ops.call0 _ (Link_ev (V : Int)) rfl ?_; rintro v V' ⟨rfl, rfl⟩; simp only [lapp, List.map_nil, rn, rnL]
    generalize hq1 : linkNext (V : Int) = q1 at *
    generalize hq2 : linkGone (V : Int) = q2 at *
    (cbv; repeat' (first | (refine ⟨by simp only [Ops.need_eq, needs]; first | rfl | decide, ?_⟩; try cbv) | (refine mt (fun h => ?_) (fun h => ?_) <;> first | (exfalso; simp [Ops.cmp_eq, Ops.not_eq, icmp] at h; done) | (exfalso; simp [Ops.cmp_eq, icmp] at h; omega) | (try cbv))))
    refine Ops.call0 _ (PutLink_ev q1 q2) rfl ?_; rintro v V' ⟨rfl, rfl⟩; simp only [lapp, List.map_nil, rn, rnL]
    rw [hpl]
    (cbv; repeat' (first | (refine ⟨by simp only [Ops.need_eq, needs]; first | rfl | decide, ?_⟩; try cbv) | (refine mt (fun h => ?_) (fun h => ?_) <;> first | (exfalso; simp [Ops.cmp_eq, Ops.not_eq, icmp] at h; done) | (exfalso; simp [Ops.cmp_eq, icmp] at h; omega) | (try cbv))))
    · refine Ops.call0 _ (PutLink_ev N gone) rfl ?_; rintro v V' ⟨rfl, rfl⟩; simp only [lapp, List.map_nil, rn, rnL]
      rw [hp]
      (cbv; repeat' (first | (refine ⟨by simp only [Ops.need_eq, needs]; first | rfl | decide, ?_⟩; try cbv) | (refine mt (fun h => ?_) (fun h => ?_) <;> first | (exfalso; simp [Ops.cmp_eq, Ops.not_eq, icmp] at h; done) | (exfalso; simp [Ops.cmp_eq, icmp] at h; omega) | (try cbv))))
      refine hQ _ _ (ReV.none rfl ⟨?_, rfl⟩)
      simp [Ops.cmp_eq, icmp, hle]
  · exfalso
    rw [Ops.eqs_eq] at h
    simp [eqL, eqV] at h
theorem ListLinks_law {W0 : World} (l : LinkS) (n : Int) : Ev Tryz.prog W0 3 [.agg l.cs, .int .i64 n] [] (fun v V' => v = .bool true ∧ V' = []) := ListLinks_ev l.next l.gone n
end Go.Proofs.YtglghdjpkecngaaGreat
