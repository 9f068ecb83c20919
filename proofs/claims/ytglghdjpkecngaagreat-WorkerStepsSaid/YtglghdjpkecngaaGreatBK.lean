/- shelf: how many lists, where a key's begins. -/
import Derived.Test.YtglghdjpkecngaaGreatBJ
namespace Go.Proofs.YtglghdjpkecngaaGreat
set_option linter.unusedVariables false
set_option linter.unusedSimpArgs false
open Go Go.SL Go.FL
set_option maxRecDepth 100000
theorem shelfU_cl (l : List Nat) : ∀ ρ : Nat → Nat, (∀ i, i < (shelfU l).length → ρ i = i) → (shelfU l).map (rnB ρ) = shelfU l := by
  intro ρ h
  have e1 := h 1 (by simp [shelfU])
  have e2 := h 2 (by simp [shelfU])
  have a1 : rnB ρ (.cells [headV l 1 2]) = .cells [headV l 1 2] := by
    show VB.cells [rn ρ (headV l 1 2)] = _
    rw [headV_rn, e1, e2]
  have a2 : rnB ρ (headB l 2) = headB l 2 := by rw [headB_rn, e2]
  have a3 : rnB ρ (numB l) = numB l := by cases l <;> rfl
  show [rnB ρ (.cells [headV l 1 2]), rnB ρ (headB l 2), rnB ρ (numB l)] = _
  rw [a1, a2, a3]; rfl
theorem shelfU_cons {l : List Nat} (h : l ≠ []) : shelfU l = [.cells [.sl 1 1 0 l.length (.v 2)], .arr 1 (l.map fun h : Nat => [.int .u64 (h : Int)]) (.v 2), .num] := by
  cases l with
  | nil => exact (h rfl).elim
  | cons => rfl
theorem shelfListsO_ev {W0 : World} (l : List Nat) : Ev Tryz.prog W0 43 [.ptr 0 0] (shelfU l) (fun v V' => v = .int .i64 l.length ∧ V' = shelfU l) := by
  have hcl := shelfU_cl l
  refine Ev.out fun Q' hQ => ?_
  by_cases hn : l = []
  · subst hn
    refine ev43 rfl fun o => ?_
    cbv
    exact hQ _ _ (ReV.pre hcl (fun _ => rfl) ⟨rfl, rfl⟩)
  · have hU := shelfU_cons hn
    rw [hU] at hQ hcl ⊢
    generalize l.length = n at *
    generalize (l.map fun h : Nat => [VV.int .u64 (h : Int)]) = xs at *
    refine ev43 rfl fun o => ?_
    cbv
    exact hQ _ _ (ReV.pre hcl (fun _ => rfl) ⟨rfl, rfl⟩)
theorem shelfLists_ev {W0 : World} (l : List Nat) : Ev Tryz.prog W0 43 [.ptr 0 0] [bx W0 (shelfU l)] (fun v V' => v = .int .i64 l.length ∧ V' = [bx W0 (shelfU l)]) :=
  Ev.box0 (U := shelfU l) (shelfListsO_ev l) (by simp [shelfU]) rfl (fun _ => rfl)
def ofS (key l : Int) : Int := if l < 1 then 0 else (key % 4294967296 * 2654435769) % 4294967296 % l
theorem ofS_lt {key l : Int} (h : 1 ≤ l) : 0 ≤ ofS key l ∧ ofS key l < l := by
  unfold ofS
  rw [if_neg (by omega)]
  exact ⟨Int.emod_nonneg _ (by omega), Int.emod_lt_of_pos _ (by omega)⟩
theorem tmod_pos {a b : Int} (h : 0 ≤ a) : a.tmod b = a % b := Int.tmod_eq_emod_of_nonneg h
theorem Of_ev {W0 : World} (key l : Int) (hl : l ≤ 65535) : Ev Tryz.prog W0 76 [.int .i64 key, .int .i64 l] [] (fun v V' => v = .int .i64 (ofS key l) ∧ V' = []) := by
  refine Ev.out fun Q' hQ => ev76 rfl fun o => ?_
  (cbv; repeat' (refine mt (fun _ => ?_) (fun _ => ?_) <;> cbv))
  · rename_i h
    have h1 : l < 1 := by simpa [o.cmp_eq, icmp] using h
    exact hQ _ _ (ReV.none rfl ⟨by rw [ofS, if_pos h1], rfl⟩)
  · rename_i h
    have h1 : ¬ l < 1 := by simpa [o.cmp_eq, icmp] using h
    have e1 : IntKind.u32.wrap l = l := by rw [IntKind.wrap_u32]; omega
    simp only [o.wr_eq, o.ar_eq, o.need_eq, arith, needs]
    rw [e1]
    simp only [IntKind.wrap_u32]
    rw [IntKind.wrap_u32] at e1
    refine ⟨by simp; omega, ?_⟩
    refine hQ _ _ (ReV.none rfl ⟨?_, rfl⟩)
    congr 1
    have hb := ofS_lt (key := key) (show 1 ≤ l by omega)
    rw [ofS, if_neg h1] at hb
    rw [ofS, if_neg h1, tmod_pos (Int.emod_nonneg _ (by omega))]
    rw [IntKind.wrap_i64] <;> omega
theorem shelfHead_ev {W0 : World} (l : List Nat) (hn : l ≠ []) (hl : l.length ≤ 65535) (key : Int) : Ev Tryz.prog W0 40 [.ptr 0 0, .int .i64 key] [bx W0 (shelfU l)] (fun v V' => v = .tup [.int .u64 (l[(ofS key l.length).toNat]?.getD 0 : Nat), .bool true] ∧ V' = [bx W0 (shelfU l)]) := by
  refine Ev.box0 (U := shelfU l) ?_ (by simp [shelfU]) rfl (fun _ => rfl)
  have hcl := shelfU_cl l
  have hL := shelfListsO_ev (W0 := W0) l
  have hU := shelfU_cons hn
  have hb := ofS_lt (key := key) (l := l.length) (by have := List.length_pos_iff.2 hn; omega)
  refine Ev.out fun Q' hQ => ?_
  rw [hU] at hQ hcl hL ⊢
  have hO := Of_ev (W0 := W0) key l.length (by omega)
  generalize hj : ofS key l.length = j at *
  have hget : (l.map fun h : Nat => [VV.int .u64 (h : Int)])[j.toNat]? = some [VV.int .u64 ((l[j.toNat]?.getD 0 : Nat) : Int)] := by
    have hlt : j.toNat < l.length := by omega
    rw [List.getElem?_map, List.getElem?_eq_getElem hlt]; rfl
  generalize (l[j.toNat]?.getD 0 : Nat) = r at *
  have hn1 : 1 ≤ l.length := by have := List.length_pos_iff.2 hn; omega
  have hb2 : j < (l.length : Nat) := hb.2
  generalize hm : l.length = n at *
  generalize hxs : (l.map fun h : Nat => [VV.int .u64 (h : Int)]) = xs at *
  refine ev40 rfl fun o => ?_
  cbv
  have hxr : ∀ ρ, xs.map (rnL ρ) = xs := by intro ρ; rw [← hxs]; simp [rnL, rn]
  have hxr' : ∀ (ρ : Nat → Nat) c, rnB ρ (.arr 1 xs c) = .arr 1 xs (c.rn ρ) := by intro ρ c; simp only [rnB, hxr]
  refine Ops.call _ [0, 1, 2] hL rfl rfl rfl ⟨.inr rfl, .inr (by rw [hxr']; rfl), .inr rfl, trivial⟩ ?_
  rintro v V' ⟨rfl, rfl⟩
  simp only [layB, lset, lapp, List.map_nil, List.map_cons, hxr']
  (cbv; repeat' (first | (refine mt (fun h => ?_) (fun h => ?_) <;> first | (exfalso; simp [Ops.cmp_eq, icmp] at h; omega) | (try cbv)) | fail))
  refine Ops.call _ [] hO rfl rfl rfl trivial ?_
  rintro v V' ⟨rfl, rfl⟩
  simp only [layB, lapp, List.map_nil]
  cbv
  refine ⟨by simp only [Ops.inb_eq]; exact decide_eq_true ⟨by first | exact (hb.1) | (simp only [Int.ofNat_eq_natCast]; exact (hb.1)), by first | exact (hb2) | (simp only [Int.ofNat_eq_natCast]; exact (hb2))⟩, ?_⟩
  simp only [Int.toNat_natCast, Int.ofNat_eq_natCast, Ops.get_eq, Ops.nadd_eq, Ops.nat_eq, Nat.zero_add, hget]
  cbv
  exact hQ _ _ (ReV.pre hcl (fun _ => rfl) ⟨rfl, rfl⟩)
end Go.Proofs.YtglghdjpkecngaaGreat
