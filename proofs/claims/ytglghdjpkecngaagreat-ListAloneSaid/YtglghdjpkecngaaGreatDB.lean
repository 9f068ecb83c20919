/- list: alone, whatever is asked. -/
import Derived.Test.YtglghdjpkecngaaGreatDA
namespace Go.Proofs.YtglghdjpkecngaaGreat
set_option linter.unusedVariables false
set_option linter.unusedSimpArgs false
open Go Go.SL Go.FL
set_option maxRecDepth 100000
theorem Want.plain (l : List Want) : Plain (l.map Want.cs) := Plain.of (fun _ _ => rfl) l
theorem wget (l : List Want) (i : Nat) (h : i < l.length) : ∃ w : Want, (l.map Want.cs)[i]? = some [.int .i64 w.who, .int .i64 w.kind, .int .i64 w.key] := ⟨l[i], by simp [List.getElem?_eq_getElem h, Want.cs]⟩
theorem bset (l : List Bool) (i : Nat) (b : Bool) : (l.map bcell).set i [.bool b] = (l.set i b).map bcell := by simp [bcell]
def e40 : EnvS := arena 4 40 12 40
set_option maxHeartbeats 4000000 in
theorem ListAlone_ev {W0 : World} (l : List Want) (oid : Option Nat) (cap : Nat) (ho : oid = some 0 ∨ (oid = none ∧ l = [])) : Ev Tryz.prog W0 7 [.osl oid 3 0 l.length cap] [.ro 3 (l.map Want.cs)] (fun v V' => v = .bool true) := by
  refine Ev.out fun Q' hQ => ev7 rfl fun o => ?_
  obtain ⟨⟨d1, d2, d3, d4⟩, m0, kz, hb, rfl, hLA⟩ := begun_ok 40 (by omega) (by omega)
  obtain ⟨A0, hw⟩ := hLA 16
  have hc : CfgOk (arena 4 (40 : Nat) 12 40).c := by constructor <;> simp only [arena] <;> omega
  have hg := wget l
  have hpl := Want.plain l
  have hE : ∀ i, (arena 4 (40 : Nat) 12 40).v i = .agg [.int .i64 4, .int .i64 40, .int .i64 12, .int .i64 40, .int .i64 100, .int .i64 600, .int .i64 3, .ptr i 0, .int .i64 0] := fun _ => rfl
  have hbe := begun_ev (W0 := W0) (40 : Nat) (by omega) (by omega) hb
  have hAsk := fun kind key m (d : DoneS) m' h => Ask_ev (W0 := W0) (arena 4 (40 : Nat) 12 40) d2 kind key m (d := d) (m' := m') h
  have hStep : ∀ (m : MemS) (inn : List Bool) (i : Nat) (kind : Int) (key : Nat), LA (arena 4 (40 : Nat) 12 40).c 6 (d2, kz) m inn i → inn.length = 16 → i < 60 → (kind = 1 ∨ kind = 2 ∨ kind = 3) → key < 16 →
      ∃ v s h m', FL.ask (arena 4 (40 : Nat) 12 40) d2 kind key m = some (⟨0, h, v, s⟩, m') ∧ v = (if (inn[key]?.getD false == (!decide (kind = 2))) = true then 1 else 0) ∧ LA (arena 4 (40 : Nat) 12 40).c 6 (d2, kz) m' (if kind = 1 then inn else inn.set key (decide (kind = 2))) (i + 1) := fun m inn i kind key A h16 hi hk hk2 => by
    obtain ⟨⟨x1, x2, x3, x4⟩, m', g1, g2, g3, g4⟩ := A.step hc hw rfl hk (key := key) (by omega) (by omega) (by omega) (by simp only [arena]; omega) (by simp only [arena]; omega) (by simp only [arena]; omega)
    simp only at g2
    subst g2
    exact ⟨x3, x4, x2, m', g1, g3, g4⟩
  have hSt := fun (m : MemS) (inn : List Bool) (tot : Nat) (hK : inn.length ≤ 64) (ks : List (Nat × Int)) (hl : ks.length < 60) (S : Seen m (arena 4 (40 : Nat) 12 40).c d2 ks inn) => sorted_ev (W0 := W0) m (arena 4 (40 : Nat) 12 40) d2 inn ks tot hK hl S.h0 S.h00 S.hn S.so S.K
  have hSeen : ∀ m inn i, inn.length = 16 → LA (arena 4 (40 : Nat) 12 40).c 6 (d2, kz) m inn i → ∃ ks, ks.length < 60 ∧ Seen m (arena 4 (40 : Nat) 12 40).c d2 ks inn := fun m inn i h16 A => by
    obtain ⟨f, F, ks, N, B, M, L, -, -, -, -, -, K⟩ := A.ex
    have := LA.keys L K
    exact ⟨ks, by omega, seen_of hc (by simp only [arena]; omega) L M K⟩
  simp only [hE] at hbe hAsk hSt
  clear hb hw hc
  generalize arena 4 (40 : Nat) 12 40 = E at *
  generalize hnx : l.length = nx at *
  generalize hxs : l.map Want.cs = xs at *
  have hXr : ∀ ρ, rnB ρ (.ro 3 xs) = .ro 3 xs := fun ρ => by simp only [rnB, hpl _]
  (cbv; repeat' (first | (refine ⟨by simp only [Ops.need_eq, needs]; first | rfl | decide, ?_⟩; try cbv) | (refine mt (fun h => ?_) (fun h => ?_) <;> first | (exfalso; simp [Ops.cmp_eq, Ops.not_eq, icmp] at h; done) | (exfalso; simp [Ops.cmp_eq, icmp] at h; omega) | (try cbv))))
  refine Ops.call _ [] hbe rfl rfl rfl trivial ?_
  rintro v V' ⟨rfl, rfl⟩
  simp only [layB, lapp, List.map_cons, List.map_nil, rnB_bx, rn, rnL]
  generalize hM : bx W0 (memU m0) = M
  (cbv; repeat' (first | (refine ⟨by simp only [Ops.need_eq, needs]; first | rfl | decide, ?_⟩; try cbv) | (refine mt (fun h => ?_) (fun h => ?_) <;> first | (exfalso; simp [Ops.cmp_eq, Ops.not_eq, icmp] at h; done) | (exfalso; simp [Ops.cmp_eq, icmp] at h; omega) | (try cbv))))
  refine Ops.call0 _ (awake16_ev) rfl ?_; rintro v V' ⟨rfl, rfl⟩; simp only [lapp, List.map_nil, rn, rnL]
  (cbv; repeat' (first | (refine ⟨by simp only [Ops.need_eq, needs]; first | rfl | decide, ?_⟩; try cbv) | (refine mt (fun h => ?_) (fun h => ?_) <;> first | (exfalso; simp [Ops.cmp_eq, Ops.not_eq, icmp] at h; done) | (exfalso; simp [Ops.cmp_eq, icmp] at h; omega) | (try cbv))))
  refine ⟨by simp [o.inb_eq], ?_⟩
  have hrep : o.rep (o.nat 16) [VV.bool false] = (List.replicate 16 false).map bcell := by simp only [o.rep_eq, o.nat_eq]; rfl
  have hn16 : o.nat 16 = 16 := by simp only [o.nat_eq]; rfl
  have hm16 : o.nmul 16 1 = 16 := by simp only [o.nmul_eq]
  simp only [hn16] at hrep
  simp only [hn16, hm16, hrep]
  subst hM
  refine ⟨fun mm env V => ∃ (i : Nat) (m : MemS) (inn : List Bool) (r : Nat → Value), i ≤ nx ∧ i ≤ 60 ∧ inn.length = 16 ∧ LA E.c 6 (d2, kz) m inn i ∧ mm = 60 - i ∧
    env = mix [(0, .osl oid 3 0 nx cap), (3, .ptr 2 0), (4, .int .u64 d2), (6, .sl 3 1 0 16 16), (7, .int .i64 i)] r ∧ V = [.ro 3 xs, bx W0 (memU m), .cells [.int .i64 4, .int .i64 40, .int .i64 12, .int .i64 40, .int .i64 100, .int .i64 600, .int .i64 3, .ptr 1 0, .int .i64 0], .arr 1 (inn.map bcell) 16],
    ⟨60, o.reI (Re.ren [0, 1, 2, 3] _ _ rfl rfl ?_ ?_ fun r => ⟨0, m0, List.replicate 16 false, r, Nat.zero_le _, Nat.zero_le _, by simp, A0, rfl, rfl, rfl⟩)⟩, ?_⟩
  · refine ⟨?_, rfl, rfl, rfl, rfl, trivial⟩
    rcases ho with rfl | ⟨rfl, _⟩ <;> rfl
  · exact ⟨.inr (by rw [hXr]; rfl), .inr rfl, .inr rfl, .inr rfl, trivial⟩
  rintro mm env V ⟨i, m, inn, r, hi, hi2, h16, A, rfl, rfl, rfl⟩
  have hbp := bcell_plain inn
  have hbg := bget inn
  have hbs := bset inn
  generalize hbx : inn.map bcell = bxs at *
  by_cases hlt : i < nx ∧ i < 60
  · obtain ⟨w, hw⟩ := hg i hlt.1
    obtain rfl : oid = some 0 := by
      rcases ho with h | ⟨_, h⟩
      · exact h
      · subst h; simp at hnx; omega
    obtain ⟨w1, w2, w3⟩ := w
    obtain ⟨ky, hky, hky2⟩ := key15 w3
    have hkd := kind3 w2
    simp only at hkd
    generalize hkk : arith .add .i64 1 (arith .rem .i64 (arith .add .i64 (arith .rem .i64 w2 3) 3) 3) = kd at hkd
    obtain ⟨x3, x4, x2, m', hask, hdv, A'⟩ := hStep m inn i kd ky A h16 hlt.2 hkd hky2
    have hAk := hAsk kd ky m _ m' hask
    have hgk := hbg ky (by rw [h16]; exact hky2)
    generalize hM : bx W0 (memU m) = M at *
    (cbv; repeat' (first | (refine ⟨by simp only [Ops.need_eq, needs]; first | rfl | decide, ?_⟩; try cbv) | (refine mt (fun h => ?_) (fun h => ?_) <;> first | (exfalso; simp [Ops.cmp_eq, Ops.not_eq, icmp] at h; done) | (exfalso; simp [Ops.cmp_eq, icmp] at h; omega) | (try cbv))))
    refine ⟨by simp only [Ops.inb_eq]; exact decide_eq_true ⟨by first | exact (Int.natCast_nonneg i) | (simp only [Int.ofNat_eq_natCast]; exact (Int.natCast_nonneg i)), by first | exact (show (i : Int) < nx by omega) | (simp only [Int.ofNat_eq_natCast]; exact (show (i : Int) < nx by omega))⟩, ?_⟩
    simp only [Int.toNat_natCast, Int.ofNat_eq_natCast, Ops.get_eq, Ops.nadd_eq, Ops.nat_eq, Nat.zero_add, (hw)]
    (cbv; repeat' (first | (refine ⟨by simp only [Ops.need_eq, needs]; first | rfl | decide, ?_⟩; try cbv) | (refine mt (fun h => ?_) (fun h => ?_) <;> first | (exfalso; simp [Ops.cmp_eq, Ops.not_eq, icmp] at h; done) | (exfalso; simp [Ops.cmp_eq, icmp] at h; omega) | (try cbv))))
    refine ⟨by simp only [Ops.inb_eq]; exact decide_eq_true ⟨by first | exact (Int.natCast_nonneg i) | (simp only [Int.ofNat_eq_natCast]; exact (Int.natCast_nonneg i)), by first | exact (show (i : Int) < nx by omega) | (simp only [Int.ofNat_eq_natCast]; exact (show (i : Int) < nx by omega))⟩, ?_⟩
    simp only [Int.toNat_natCast, Int.ofNat_eq_natCast, Ops.get_eq, Ops.nadd_eq, Ops.nat_eq, Nat.zero_add, (hw)]
    (cbv; repeat' (first | (refine ⟨by simp only [Ops.need_eq, needs]; first | rfl | decide, ?_⟩; try cbv) | (refine mt (fun h => ?_) (fun h => ?_) <;> first | (exfalso; simp [Ops.cmp_eq, Ops.not_eq, icmp] at h; done) | (exfalso; simp [Ops.cmp_eq, icmp] at h; omega) | (try cbv))))
    simp only [o.ar_eq]
    rw [hkk, hky]
    clear hkk hky hw
    refine Ops.call _ [1] hAk rfl rfl rfl ⟨.inr (by rw [← hM]; rfl), trivial⟩ ?_
    rintro v V' ⟨rfl, rfl⟩
    simp only [layB, lset, lapp, List.map_nil, List.map_cons, rnB_bx, doneV, rn, rnL]
    clear hM hAk hask
    generalize hM : bx W0 (memU m') = M'
    have hnk : ky < inn.length := by omega
    generalize hb : inn[ky]?.getD false = b at *
    rcases hkd with rfl | rfl | rfl
    · rw [if_pos rfl] at A'
      cases b <;> simp at hdv <;> subst hdv
      all_goals
        (cbv; repeat' (first | (refine ⟨by simp only [Ops.need_eq, needs]; first | rfl | decide, ?_⟩; try cbv) | (refine mt (fun h => ?_) (fun h => ?_) <;> first | (exfalso; simp [Ops.cmp_eq, Ops.not_eq, Ops.beq_eq, icmp] at h; done) | (exfalso; simp [Ops.cmp_eq, Ops.not_eq, Ops.beq_eq, icmp] at h; omega) | (try cbv))))
        refine ⟨by simp only [Ops.inb_eq]; exact decide_eq_true ⟨by first | exact (Int.natCast_nonneg ky) | (simp only [Int.ofNat_eq_natCast]; exact (Int.natCast_nonneg ky)), by first | exact (show (ky : Int) < 16 by omega) | (simp only [Int.ofNat_eq_natCast]; exact (show (ky : Int) < 16 by omega))⟩, ?_⟩
        simp only [Int.toNat_natCast, Int.ofNat_eq_natCast, Ops.get_eq, Ops.nadd_eq, Ops.nat_eq, Nat.zero_add, (hgk)]
        (cbv; repeat' (first | (refine ⟨by simp only [Ops.need_eq, needs]; first | rfl | decide, ?_⟩; try cbv) | (refine mt (fun h => ?_) (fun h => ?_) <;> first | (exfalso; simp [Ops.cmp_eq, Ops.not_eq, Ops.beq_eq, icmp] at h; done) | (exfalso; simp [Ops.cmp_eq, Ops.not_eq, Ops.beq_eq, icmp] at h; omega) | (try cbv))))
        refine ⟨60 - (i + 1), by omega, o.reI (Re.ren [0, 1, 2, 3] _ _ rfl rfl ?_ ?_ fun r => ⟨i + 1, m', inn, r, by omega, by omega, h16, A', rfl, rfl, rfl⟩)⟩
        · refine ⟨rfl, rfl, rfl, rfl, ?_, trivial⟩
          exact congrArg (VV.int .i64) (by simp only [Ops.ar_eq]; exact add1 (i := i) (by omega))
        · exact ⟨.inr (by rw [hXr]; rfl), .inr (by rw [← hM]; rfl), .inr rfl, .inr (by rw [hbx]; simp only [rnB, hbp _, Cap.rn]; rfl), trivial⟩
    · rw [if_neg (by decide), show decide ((2 : Int) = 2) = true by decide] at A'
      cases b <;> simp at hdv <;> subst hdv
      all_goals
        (cbv; repeat' (first | (refine ⟨by simp only [Ops.need_eq, needs]; first | rfl | decide, ?_⟩; try cbv) | (refine mt (fun h => ?_) (fun h => ?_) <;> first | (exfalso; simp [Ops.cmp_eq, Ops.not_eq, Ops.beq_eq, icmp] at h; done) | (exfalso; simp [Ops.cmp_eq, Ops.not_eq, Ops.beq_eq, icmp] at h; omega) | (try cbv))))
        refine ⟨by simp only [Ops.inb_eq]; exact decide_eq_true ⟨by first | exact (Int.natCast_nonneg ky) | (simp only [Int.ofNat_eq_natCast]; exact (Int.natCast_nonneg ky)), by first | exact (show (ky : Int) < 16 by omega) | (simp only [Int.ofNat_eq_natCast]; exact (show (ky : Int) < 16 by omega))⟩, ?_⟩
        simp only [Int.toNat_natCast, Int.ofNat_eq_natCast, Ops.get_eq, Ops.nadd_eq, Ops.nat_eq, Nat.zero_add, (hgk)]
        (cbv; repeat' (first | (refine ⟨by simp only [Ops.need_eq, needs]; first | rfl | decide, ?_⟩; try cbv) | (refine mt (fun h => ?_) (fun h => ?_) <;> first | (exfalso; simp [Ops.cmp_eq, Ops.not_eq, Ops.beq_eq, icmp] at h; done) | (exfalso; simp [Ops.cmp_eq, Ops.not_eq, Ops.beq_eq, icmp] at h; omega) | (try cbv))))
        refine ⟨by simp only [Ops.inb_eq]; exact decide_eq_true ⟨by first | exact (Int.natCast_nonneg ky) | (simp only [Int.ofNat_eq_natCast]; exact (Int.natCast_nonneg ky)), by first | exact (show (ky : Int) < 16 by omega) | (simp only [Int.ofNat_eq_natCast]; exact (show (ky : Int) < 16 by omega))⟩, ?_⟩
        simp only [Int.toNat_natCast, Int.ofNat_eq_natCast, Ops.get_eq, Ops.nadd_eq, Ops.nat_eq, Nat.zero_add, (hgk)]
        (cbv; repeat' (first | (refine ⟨by simp only [Ops.need_eq, needs]; first | rfl | decide, ?_⟩; try cbv) | (refine mt (fun h => ?_) (fun h => ?_) <;> first | (exfalso; simp [Ops.cmp_eq, Ops.not_eq, Ops.beq_eq, icmp] at h; done) | (exfalso; simp [Ops.cmp_eq, Ops.not_eq, Ops.beq_eq, icmp] at h; omega) | (try cbv))))
        refine ⟨60 - (i + 1), by omega, o.reI (Re.ren [0, 1, 2, 3] _ _ rfl rfl ?_ ?_ fun r => ⟨i + 1, m', inn.set ky true, r, by omega, by omega, by simp [h16], A', rfl, rfl, rfl⟩)⟩
        · refine ⟨rfl, rfl, rfl, rfl, ?_, trivial⟩
          exact congrArg (VV.int .i64) (by simp only [Ops.ar_eq]; exact add1 (i := i) (by omega))
        · refine ⟨.inr (by rw [hXr]; rfl), .inr (by rw [← hM]; rfl), .inr rfl, .inr ?_, trivial⟩
          have e1 : ∀ x, o.set bxs (o.nadd 0 (o.nat (Int.ofNat ky))) x = bxs.set ky x := fun x => by simp only [o.set_eq, o.nadd_eq, o.nat_eq, Int.ofNat_eq_natCast, Int.toNat_natCast, Nat.zero_add]
          have e2 : o.cmp .eql 2 2 = true := by simp only [o.cmp_eq, icmp]; rfl
          have hp2 := bcell_plain (inn.set ky true)
          rw [← hbs] at hp2 ⊢
          show some (VB.arr 1 (o.set bxs _ [VV.bool (o.cmp .eql 2 2)]) 16) = _
          first | rw [e1, e2] | (simp only [o.set_eq]; rw [e2])
          simp only [rnB, hp2 _, Cap.rn]
          rfl
    · rw [if_neg (by decide), show decide ((3 : Int) = 2) = false by decide] at A'
      cases b <;> simp at hdv <;> subst hdv
      all_goals
        (cbv; repeat' (first | (refine ⟨by simp only [Ops.need_eq, needs]; first | rfl | decide, ?_⟩; try cbv) | (refine mt (fun h => ?_) (fun h => ?_) <;> first | (exfalso; simp [Ops.cmp_eq, Ops.not_eq, Ops.beq_eq, icmp] at h; done) | (exfalso; simp [Ops.cmp_eq, Ops.not_eq, Ops.beq_eq, icmp] at h; omega) | (try cbv))))
        refine ⟨by simp only [Ops.inb_eq]; exact decide_eq_true ⟨by first | exact (Int.natCast_nonneg ky) | (simp only [Int.ofNat_eq_natCast]; exact (Int.natCast_nonneg ky)), by first | exact (show (ky : Int) < 16 by omega) | (simp only [Int.ofNat_eq_natCast]; exact (show (ky : Int) < 16 by omega))⟩, ?_⟩
        simp only [Int.toNat_natCast, Int.ofNat_eq_natCast, Ops.get_eq, Ops.nadd_eq, Ops.nat_eq, Nat.zero_add, (hgk)]
        (cbv; repeat' (first | (refine ⟨by simp only [Ops.need_eq, needs]; first | rfl | decide, ?_⟩; try cbv) | (refine mt (fun h => ?_) (fun h => ?_) <;> first | (exfalso; simp [Ops.cmp_eq, Ops.not_eq, Ops.beq_eq, icmp] at h; done) | (exfalso; simp [Ops.cmp_eq, Ops.not_eq, Ops.beq_eq, icmp] at h; omega) | (try cbv))))
        refine ⟨by simp only [Ops.inb_eq]; exact decide_eq_true ⟨by first | exact (Int.natCast_nonneg ky) | (simp only [Int.ofNat_eq_natCast]; exact (Int.natCast_nonneg ky)), by first | exact (show (ky : Int) < 16 by omega) | (simp only [Int.ofNat_eq_natCast]; exact (show (ky : Int) < 16 by omega))⟩, ?_⟩
        simp only [Int.toNat_natCast, Int.ofNat_eq_natCast, Ops.get_eq, Ops.nadd_eq, Ops.nat_eq, Nat.zero_add, (hgk)]
        (cbv; repeat' (first | (refine ⟨by simp only [Ops.need_eq, needs]; first | rfl | decide, ?_⟩; try cbv) | (refine mt (fun h => ?_) (fun h => ?_) <;> first | (exfalso; simp [Ops.cmp_eq, Ops.not_eq, Ops.beq_eq, icmp] at h; done) | (exfalso; simp [Ops.cmp_eq, Ops.not_eq, Ops.beq_eq, icmp] at h; omega) | (try cbv))))
        refine ⟨60 - (i + 1), by omega, o.reI (Re.ren [0, 1, 2, 3] _ _ rfl rfl ?_ ?_ fun r => ⟨i + 1, m', inn.set ky false, r, by omega, by omega, by simp [h16], A', rfl, rfl, rfl⟩)⟩
        · refine ⟨rfl, rfl, rfl, rfl, ?_, trivial⟩
          exact congrArg (VV.int .i64) (by simp only [Ops.ar_eq]; exact add1 (i := i) (by omega))
        · refine ⟨.inr (by rw [hXr]; rfl), .inr (by rw [← hM]; rfl), .inr rfl, .inr ?_, trivial⟩
          have e1 : ∀ x, o.set bxs (o.nadd 0 (o.nat (Int.ofNat ky))) x = bxs.set ky x := fun x => by simp only [o.set_eq, o.nadd_eq, o.nat_eq, Int.ofNat_eq_natCast, Int.toNat_natCast, Nat.zero_add]
          have e2 : o.cmp .eql 3 2 = false := by simp only [o.cmp_eq, icmp]; rfl
          have hp2 := bcell_plain (inn.set ky false)
          rw [← hbs] at hp2 ⊢
          show some (VB.arr 1 (o.set bxs _ [VV.bool (o.cmp .eql 3 2)]) 16) = _
          first | rw [e1, e2] | (simp only [o.set_eq]; rw [e2])
          simp only [rnB, hp2 _, Cap.rn]
          rfl
  · obtain ⟨ks, hks, S⟩ := hSeen m inn i h16 A
    have hS := hSt m inn 16 (by omega) ks hks S
    rw [h16, hbx] at hS
    generalize hM : bx W0 (memU m) = M at *
    have hend : nx ≤ i ∨ (i < nx ∧ 60 ≤ i) := by omega
    rcases hend with h1 | ⟨h1, h2⟩
    all_goals
      (cbv; repeat' (first | (refine ⟨by simp only [Ops.need_eq, needs]; first | rfl | decide, ?_⟩; try cbv) | (refine mt (fun h => ?_) (fun h => ?_) <;> first | (exfalso; simp [Ops.cmp_eq, Ops.not_eq, Ops.beq_eq, icmp] at h; done) | (exfalso; simp [Ops.cmp_eq, Ops.not_eq, Ops.beq_eq, icmp] at h; omega) | (try cbv))))
      refine Ops.call _ [1, 3] hS rfl rfl rfl ⟨.inr (by rw [← hM]; rfl), .inr (by simp only [rnB, hbp _, Cap.rn]; rfl), trivial⟩ ?_
      rintro v V' ⟨rfl, rfl⟩
      simp only [layB, lset, lapp, List.map_nil, List.map_cons, rn, rnL]
      (cbv; repeat' (first | (refine ⟨by simp only [Ops.need_eq, needs]; first | rfl | decide, ?_⟩; try cbv) | (refine mt (fun h => ?_) (fun h => ?_) <;> first | (exfalso; simp [Ops.cmp_eq, Ops.not_eq, Ops.beq_eq, icmp] at h; done) | (exfalso; simp [Ops.cmp_eq, Ops.not_eq, Ops.beq_eq, icmp] at h; omega) | (try cbv))))
      exact hQ _ _ (ReV.ren [0] (.bool true) [.ro 3 xs] rfl rfl rfl ⟨.inr (by rw [hXr]; rfl), trivial⟩ rfl)
end Go.Proofs.YtglghdjpkecngaaGreat
