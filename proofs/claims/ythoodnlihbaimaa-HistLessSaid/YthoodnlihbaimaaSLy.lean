/- A symbolic executor over the model: what is done to a heap laid open is done to it as one entry. -/
import Derived.Test.YthoodnlihbaimaaSLx
namespace Go.SL
mutual
theorem rn_id {ρ : Nat → Nat} (h : ∀ i, ρ i = i) : ∀ v : VV, rn ρ v = v
  | .int _ _ | .bool _ | .str _ | .nilPtr | .nilSl | .nilMap | .nilChan | .nilFn | .nilIface | .raw _ => by simp [rn]
  | .ptr _ _ | .elt _ _ _ _ | .map _ | .chan _ => by simp [rn, h]
  | .sl _ _ _ _ c => by cases c <;> simp [rn, h, Cap.rn]
  | .osl oid _ _ _ _ => by cases oid <;> simp [rn, h]
  | .fn _ a b => by simp [rn, rnL_id h a, rnL_id h b]
  | .iface _ v => by simp [rn, rn_id h v]
  | .agg cs => by simp [rn, rnL_id h cs]
  | .tup cs => by simp [rn, rnL_id h cs]
theorem rnL_id {ρ : Nat → Nat} (h : ∀ i, ρ i = i) : ∀ l : List VV, rnL ρ l = l
  | [] => by simp [rnL]
  | v :: l => by simp [rnL, rn_id h v, rnL_id h l]
end
theorem rnB_id {ρ : Nat → Nat} (h : ∀ i, ρ i = i) (b : VB) : rnB ρ b = b := by
  have hL : ∀ l, rnL ρ l = l := rnL_id h
  have hM : ∀ xs : List (List VV), xs.map (rnL ρ) = xs := fun xs => by rw [show rnL ρ = id from funext hL]; simp
  cases b with
  | arr e xs t => simp only [rnB, hM]; cases t <;> simp [Cap.rn, h]
  | ro e xs => simp only [rnB, hM]
  | _ => simp [rnB, hL]
theorem map_rnB_id {ρ : Nat → Nat} (h : ∀ i, ρ i = i) (U : List VB) : U.map (rnB ρ) = U := by
  induction U with
  | nil => rfl
  | cons b U ih => simp [rnB_id h, ih]
def countUp : Nat → Nat → List Nat
  | 0, _ => []
  | n + 1, k => k :: countUp n (k + 1)
theorem countUp_len : ∀ (n k : Nat), (countUp n k).length = n
  | 0, _ => rfl
  | n + 1, k => by simp [countUp, countUp_len n]
theorem countUp_get : ∀ (n k i : Nat), i < n → lget (countUp n k) i = some (k + i)
  | n + 1, k, 0, _ => by simp [countUp, lget]
  | n + 1, k, i + 1, h => by
    simp only [countUp, lget]
    rw [countUp_get n (k + 1) i (by omega)]; congr 1; omega
theorem countUp_mem : ∀ {n k a : Nat}, a ∈ countUp n k → k ≤ a ∧ a < k + n
  | n + 1, k, a, h => by
    rcases List.mem_cons.1 h with rfl | h
    · omega
    · have := countUp_mem h; omega
theorem countUp_nodup : ∀ (n k : Nat), nodupB (countUp n k) = true
  | 0, _ => rfl
  | n + 1, k => by
    simp only [countUp, nodupB]
    have : hasNat (countUp n (k + 1)) k = false := by
      cases h : hasNat (countUp n (k + 1)) k with
      | false => rfl
      | true => have := countUp_mem (hasNat_iff.1 h); omega
    rw [this]; exact countUp_nodup n (k + 1)
theorem rho_countUp (n i : Nat) : rho (countUp n 0) n i = i := by
  unfold rho
  by_cases h : i < n
  · rw [countUp_get n 0 i h]; simp
  · rw [lget_eq, List.getElem?_eq_none (by rw [countUp_len]; omega), llen_eq, countUp_len]; simp; omega
theorem fit_countUp : ∀ (V : List VB) (n k : Nat) (U : List VB), U.length = n → (∀ i, i < n → lget V (k + i) = lget U i) → fitB (fun i => i) V (countUp n k) U
  | _, 0, _, [], _, _ => trivial
  | V, n + 1, k, b :: U, hl, h => by
    refine ⟨.inr ?_, fit_countUp V n (k + 1) U (by simpa using hl) fun i hi => ?_⟩
    · have := h 0 (by omega)
      rw [Nat.add_zero] at this
      rw [this, rnB_id (fun _ => rfl)]; rfl
    · have := h (i + 1) (by omega)
      rw [show k + 1 + i = k + (i + 1) by omega, this]; rfl
theorem fit_id (U : List VB) : fitB (rho (countUp U.length 0) U.length) U (countUp U.length 0) U := by
  have : rho (countUp U.length 0) U.length = fun i => i := funext fun i => rho_countUp _ i
  rw [this]
  exact fit_countUp U U.length 0 U rfl fun i _ => by rw [Nat.zero_add]
section
variable {P : Program} {W0 : World}
theorem layB_box0 {W0 : World} (U : List VB) (h : U ≠ []) : layB (rho [0] [bx W0 U].length) [bx W0 U] [0] U = U := by
  have hid : ∀ i, rho [0] 1 i = i := by
    intro i
    cases i with
    | zero => rfl
    | succ i => rw [rho_ge (by simp)]; simp; omega
  cases U with
  | nil => exact absurd rfl h
  | cons b U =>
    have e : layB (rho [0] [bx W0 (b :: U)].length) [bx W0 (b :: U)] [0] (b :: U) = rnB (rho [0] 1) b :: U.map (rnB (rho [0] 1)) := by
      simp only [layB, lset, lapp_eq, List.length_cons, List.length_nil, Nat.zero_add]; rfl
    rw [e, rnB_id hid, map_rnB_id hid]
/-- A whole heap as one entry. -/
theorem Ev.box0 {f : FuncId} {args : List VV} {U U' : List VB} {r : VV} (he : Ev P W0 f args U (fun v V' => v = r ∧ V' = U')) (h : U ≠ []) (hb : isBlk (lget U' 0) = true) (hr : ∀ n, rn (rho [0] n) r = r) :
    Ev P W0 f args [bx W0 U] (fun v V' => v = r ∧ V' = [bx W0 U']) := by
  refine Ev.outB 0 (U := U) rfl fun Q' hQ => ?_
  rw [layB_box0 U h]
  refine he.mono ?_
  rintro v V' ⟨rfl, rfl⟩
  refine hQ _ _ ?_
  cases V' with
  | nil => cases hb
  | cons b V' =>
    have hc : countUp (b :: V').length 0 = 0 :: countUp V'.length 1 := rfl
    have hf := fit_id (b :: V')
    have hn := countUp_nodup (b :: V').length 0
    rw [hc] at hf hn
    refine ReV.shut 0 (countUp V'.length 1) (b :: V') hn hb hf ?_
    refine ReV.ren [0] v [bx W0 (b :: V')] rfl rfl (hr _).symm ⟨.inr ?_, trivial⟩ ⟨rfl, rfl⟩
    have hq : ¬ 0 ∈ countUp V'.length 1 := fun hm => by have := countUp_mem hm; omega
    rw [lget_eq, emps_get, if_neg (fun h => hq h.1), lset_eq]
    rfl
end
end Go.SL
