/- hist: whether each took effect while it was under way: the law. -/
import Derived.Test.YthoodnlihbaimaaHD
namespace Go.Proofs.Ythoodnlihbaimaa
set_option linter.unusedVariables false
set_option linter.unusedSimpArgs false
open Go Go.SL
set_option maxRecDepth 100000
theorem HistWithin_ev {W0 : World} (l : List Told) (oid : Option Nat) (cap : Nat) (ho : oid = some 0 ∨ (oid = none ∧ l = [])) : Ev Try.prog W0 4 [.osl oid 18 0 l.length cap] [.ro 18 (l.map Told.cs)] (fun v V' => v = .bool true) := by
  have hc := cutAll_ev (W0 := W0) l oid cap ho
  have hpl := Told.plain l
  have hXr : ∀ ρ, rnB ρ (.ro 18 (l.map Told.cs)) = .ro 18 (l.map Told.cs) := fun ρ => by simp only [rnB, hpl _]
  have hlen := cut40_len l
  have ho2 : oid = some 0 ∨ (oid = none ∧ l.length = 0) := by
    rcases ho with h | ⟨h, rfl⟩
    · exact .inl h
    · exact .inr ⟨h, rfl⟩
  have hA := Within_ev (W0 := W0) [] 0 0 (by decide) (by decide)
  have hA2 := lwithin_ev (W0 := W0) [] 0 0 (by decide)
  have hB := WithinB_ev (W0 := W0) (cut40 l) (by omega)
  have hB2 := lwithinB_ev (W0 := W0) (cut40 l) (by omega)
  have hpy := Told.plain (cut40 l)
  have haw := awake20_ev (W0 := W0)
  have hst := out_st (.ro 18 (l.map Told.cs)) ((cut40 l).map Told.cs) (cut40 l).length
  rw [show withinT [] = true from rfl, show ([] : List Told).map Told.cs = [] from rfl, show ([] : List Told).length = 0 from rfl] at hA hA2
  clear ho hpl
  refine Ev.out fun Q' hQ => ?_
  generalize withinT (cut40 l) = wt at *
  generalize (cut40 l).map Told.cs = ys at *
  generalize (cut40 l).length = n at *
  generalize l.map Told.cs = xs at *
  generalize l.length = nx at *
  have hr : ∀ (ρ : Nat → Nat) c, rnB ρ (.arr 18 ys c) = .arr 18 ys (c.rn ρ) := by intro ρ c; simp only [rnB, hpy _]
  refine ev4 rfl fun o => ?_
  (cbv; repeat' (first | (refine ⟨by simp only [Ops.need_eq, needs]; first | rfl | decide, ?_⟩; try cbv) | (refine mt (fun h => ?_) (fun h => ?_) <;> first | (exfalso; simp [Ops.cmp_eq, Ops.not_eq, icmp] at h; done) | (exfalso; simp [Ops.cmp_eq, icmp] at h; omega) | (try cbv))))
  refine Ops.call _ [0] hc (by rcases ho2 with rfl | ⟨rfl, _⟩ <;> rfl) rfl rfl ⟨.inr (by rw [hXr]; rfl), trivial⟩ ?_
  rintro v V' ⟨rfl, rfl⟩
  rcases hst with ⟨hi, e1, e2⟩ | ⟨hi, e1, e2⟩
  · rw [e1, e2]
    clear e1 e2 hB hB2
    simp only [layB, lset, lapp, List.map_nil, List.map_cons, hXr, rn, rnL, Cap.rn]
    (cbv; repeat' (first | (refine ⟨by simp only [Ops.need_eq, needs]; first | rfl | decide, ?_⟩; try cbv) | (refine mt (fun h => ?_) (fun h => ?_) <;> first | (exfalso; simp [Ops.cmp_eq, Ops.not_eq, icmp] at h; done) | (exfalso; simp [Ops.cmp_eq, icmp] at h; omega) | (try cbv))))
    refine Ops.call0 _ (haw) rfl ?_; rintro v V' ⟨rfl, rfl⟩; simp only [lapp, List.map_nil, rn, rnL]
    (cbv; repeat' (first | (refine ⟨by simp only [Ops.need_eq, needs]; first | rfl | decide, ?_⟩; try cbv) | (refine mt (fun h => ?_) (fun h => ?_) <;> first | (exfalso; simp [Ops.cmp_eq, Ops.not_eq, icmp] at h; done) | (exfalso; simp [Ops.cmp_eq, icmp] at h; omega) | (try cbv))))
    refine Ops.call _ [1] hA rfl rfl rfl ⟨.inr rfl, trivial⟩ ?_
    rintro v V' ⟨rfl, rfl⟩
    simp only [layB, lset, lapp, List.map_nil, List.map_cons, rn, rnL]
    (cbv; repeat' (first | (refine ⟨by simp only [Ops.need_eq, needs]; first | rfl | decide, ?_⟩; try cbv) | (refine mt (fun h => ?_) (fun h => ?_) <;> first | (exfalso; simp [Ops.cmp_eq, Ops.not_eq, icmp] at h; done) | (exfalso; simp [Ops.cmp_eq, icmp] at h; omega) | (try cbv))))
    refine Ops.call _ [1] hA2 rfl rfl rfl ⟨.inr rfl, trivial⟩ ?_
    rintro v V' ⟨rfl, rfl⟩
    simp only [layB, lset, lapp, List.map_nil, List.map_cons, rn, rnL]
    (cbv; repeat' (first | (refine ⟨by simp only [Ops.need_eq, needs]; first | rfl | decide, ?_⟩; try cbv) | (refine mt (fun h => ?_) (fun h => ?_) <;> first | (exfalso; simp [Ops.cmp_eq, Ops.not_eq, icmp] at h; done) | (exfalso; simp [Ops.cmp_eq, icmp] at h; omega) | (try cbv))))
    refine hQ _ _ (ReV.ren [0] (.bool true) [.ro 18 xs] rfl rfl ?_ ⟨.inr (by rw [hXr]; rfl), trivial⟩ rfl)
    simp [Ops.beq_eq, rn]
  · rw [e1, e2]
    clear e1 e2 hA hA2
    have r1 : ∀ m, rho [0] m 1 = m := fun _ => rfl
    have hr2 : ∀ ρ : Nat → Nat, rnB ρ .num = .num := fun _ => rfl
    simp only [layB, lset, lapp, List.map_nil, List.map_cons, hXr, hr, hr2, rn, rnL, Cap.rn]
    (cbv; repeat' (first | (refine ⟨by simp only [Ops.need_eq, needs]; first | rfl | decide, ?_⟩; try cbv) | (refine mt (fun h => ?_) (fun h => ?_) <;> first | (exfalso; simp [Ops.cmp_eq, Ops.not_eq, icmp] at h; done) | (exfalso; simp [Ops.cmp_eq, icmp] at h; omega) | (try cbv))))
    refine Ops.call0 _ (haw) rfl ?_; rintro v V' ⟨rfl, rfl⟩; simp only [lapp, List.map_nil, rn, rnL]
    (cbv; repeat' (first | (refine ⟨by simp only [Ops.need_eq, needs]; first | rfl | decide, ?_⟩; try cbv) | (refine mt (fun h => ?_) (fun h => ?_) <;> first | (exfalso; simp [Ops.cmp_eq, Ops.not_eq, icmp] at h; done) | (exfalso; simp [Ops.cmp_eq, icmp] at h; omega) | (try cbv))))
    refine Ops.call _ [1, 2] hB rfl rfl rfl ⟨.inr rfl, .inr (by rw [hr]; rfl), trivial⟩ ?_
    rintro v V' ⟨rfl, rfl⟩
    simp only [layB, lset, lapp, List.map_nil, List.map_cons, hr, hr2, rn, rnL, Cap.rn]
    (cbv; repeat' (first | (refine ⟨by simp only [Ops.need_eq, needs]; first | rfl | decide, ?_⟩; try cbv) | (refine mt (fun h => ?_) (fun h => ?_) <;> first | (exfalso; simp [Ops.cmp_eq, Ops.not_eq, icmp] at h; done) | (exfalso; simp [Ops.cmp_eq, icmp] at h; omega) | (try cbv))))
    refine Ops.call _ [1, 2] hB2 rfl rfl rfl ⟨.inr rfl, .inr (by rw [hr]; rfl), trivial⟩ ?_
    rintro v V' ⟨rfl, rfl⟩
    simp only [layB, lset, lapp, List.map_nil, List.map_cons, hr, hr2, rn, rnL, Cap.rn]
    (cbv; repeat' (first | (refine ⟨by simp only [Ops.need_eq, needs]; first | rfl | decide, ?_⟩; try cbv) | (refine mt (fun h => ?_) (fun h => ?_) <;> first | (exfalso; simp [Ops.cmp_eq, Ops.not_eq, icmp] at h; done) | (exfalso; simp [Ops.cmp_eq, icmp] at h; omega) | (try cbv))))
    refine hQ _ _ (ReV.ren [0] (.bool true) [.ro 18 xs] rfl rfl ?_ ⟨.inr (by rw [hXr]; rfl), trivial⟩ rfl)
    simp [Ops.beq_eq, rn]
end Go.Proofs.Ythoodnlihbaimaa
