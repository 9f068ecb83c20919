/- A symbolic executor over the model: the operations that look at their operands alone yield what it says. -/
import Derived.Test.YtglghdjpkecngaaGreatSLc
namespace Go.SL
section
variable {EV : FuncId → List VV → List VB → (VV → List VB → Prop) → Prop} {RE : (Env → List VB → Prop) → Env → List VB → Prop} {o : Ops EV RE} {P : Program} {cand : List TypeId} {N : Nat} {φ : Phi} {env : Env} {a : Act}

theorem RdR.get {x : Operand} {r : Rd} (h : RdR φ N env a x) (hr : rd N x = some r) : den φ (r.ev env) = some (a.eval x) := h r hr

theorem den_int {k : IntKind} {n : Int} {x : Value} : den φ (.int k n) = some x ↔ x = .int k n := by simp [den, eq_comm]
theorem den_bool {b : Bool} {x : Value} : den φ (.bool b) = some x ↔ x = .bool b := by simp [den, eq_comm]
theorem den_str {b : ByteArray} {x : Value} : den φ (.str b) = some x ↔ x = .string b := by simp [den, eq_comm]
theorem den_agg {cs : List VV} {x : Value} : den φ (.agg cs) = some x ↔ ∃ l, denL φ cs = some l ∧ x = .agg l.toArray := by
  simp only [den]; cases denL φ cs <;> simp [eq_comm]
theorem den_tup {cs : List VV} {x : Value} : den φ (.tup cs) = some x ↔ ∃ l, denL φ cs = some l ∧ x = .tuple l.toArray := by
  simp only [den]; cases denL φ cs <;> simp [eq_comm]
theorem den_ptr {i off : Nat} {x : Value} : den φ (.ptr i off) = some x ↔ ∃ b s, φ i = some (b, s) ∧ x = .pointer (some ⟨b, s + off, none⟩) := by
  simp only [den, Option.map_eq_some_iff, Prod.exists]
  constructor
  · rintro ⟨b, s, h, rfl⟩; exact ⟨b, s, h, rfl⟩
  · rintro ⟨b, s, h, rfl⟩; exact ⟨b, s, h, rfl⟩
theorem den_elt {i e j off : Nat} {x : Value} : den φ (.elt i e j off) = some x ↔ ∃ b s, φ i = some (b, s) ∧ x = .pointer (some ⟨b, s + (j * e + off), none⟩) := by
  simp only [den, Option.map_eq_some_iff, Prod.exists]
  constructor
  · rintro ⟨b, s, h, rfl⟩; exact ⟨b, s, h, rfl⟩
  · rintro ⟨b, s, h, rfl⟩; exact ⟨b, s, h, rfl⟩
theorem den_slc {i e st n : Nat} {c : Cap} {x : Value} : den φ (.sl i e st n c) = some x ↔ ∃ b s k, φ i = some (b, s) ∧ c.cap φ st n = some k ∧ x = .slice (some ⟨b, s + st * e, none⟩) n k := by
  simp only [den]
  constructor
  · intro h
    split at h
    · rename_i p k hp hk; cases h; exact ⟨p.1, p.2, k, hp, hk, rfl⟩
    · cases h
  · rintro ⟨b, s, k, h1, h2, rfl⟩; rw [h1, h2]
theorem den_sl {i e st n c : Nat} {x : Value} : den φ (.sl i e st n (.n c)) = some x ↔ ∃ b s, φ i = some (b, s) ∧ x = .slice (some ⟨b, s + st * e, none⟩) n c := by
  rw [den_slc]
  simp [Cap.cap]
theorem den_fn {f : FuncId} {u v : List VV} {x : Value} : den φ (.fn f u v) = some x ↔ ∃ l m, denL φ u = some l ∧ denL φ v = some m ∧ x = .func (.func f) l.toArray m.toArray := by
  simp only [den]; cases denL φ u <;> cases denL φ v <;> simp [eq_comm]
theorem den_iface {t : TypeId} {v : VV} {x : Value} : den φ (.iface t v) = some x ↔ ∃ y, den φ v = some y ∧ x = .iface t y := by
  simp only [den]; cases den φ v <;> simp [eq_comm]

theorem run_typeInfo' {t : TypeId} {i : TypeInfo} (h : P.info? t = some i) (w : World) : (typeInfo t).run P w = .ok i w := by simp [typeInfo, h]
theorem run_sizeOf' {t : TypeId} {n : Nat} (h : sizeB P t = some n) (w : World) : (sizeOf t).run P w = .ok n w := by
  unfold sizeB at h
  simp only [Option.map_eq_some_iff] at h
  obtain ⟨i, hi, rfl⟩ := h
  simp [sizeOf, run_typeInfo' hi]
theorem run_zeroValue' {t : TypeId} {z : List VV} (h : zeroB P t = some z) (w : World) (φ : Phi) : ∃ v, (zeroValue t).run P w = .ok v w ∧ denL φ z = some v.cells.toList := by
  unfold zeroB at h
  split at h
  · rename_i i hi
    split at h
    · rename_i v hv
      exact ⟨v, by simp [zeroValue, run_typeInfo' hi, hv], vvList_den h φ⟩
    · cases h
  · cases h
theorem run_isAgg' {t : TypeId} {g : Bool} (h : isAggB P t = some g) (w : World) : (isAgg t).run P w = .ok g w := by
  unfold isAggB at h
  unfold isAgg
  split at h
  · rename_i fs hu; cases h; simp [run_underlying hu]
  · rename_i n e hu; cases h; simp [run_underlying hu]
  · rename_i d h1 h2 hu
    cases h
    simp only [Sem.run_bind, run_underlying hu, Result.andThen_ok]
    rfl
  · cases h

theorem run_part' {t : TypeId} {g : Bool} {n off : Nat} (hg : isAggB P t = some g) (hn : sizeB P t = some n) (h1 : g = true ∨ n = 1) {cs l : List VV} {v : VV} {rs : List Value}
    (hcs : denL φ cs = some rs) (hl : rdn cs off n = some l) (hv : pack g l = some v) (w : World) : ∃ x, den φ v = some x ∧ (part t rs.toArray off).run P w = .ok x w := by
  obtain ⟨hlen, rfl⟩ := rdn_spec hl
  have hd := denL_take n (denL_drop off hcs)
  unfold part
  simp only [Sem.run_bind, run_isAgg' hg, Result.andThen_ok]
  cases g with
  | true =>
    simp only [pack] at hv
    cases hv
    refine ⟨_, den_agg.2 ⟨_, hd, rfl⟩, ?_⟩
    simp [run_sizeOf' hn, List.take_drop, Nat.add_comm]
  | false =>
    have hn1 : n = 1 := by simpa using h1
    subst hn1
    simp only [pack] at hv
    split at hv
    · rename_i u hu
      cases hv
      rw [hu] at hd
      obtain ⟨x, s, hx, hs, he⟩ := denL_cons.1 hd
      have : rs[off]? = some x := by
        have h4 : ((rs.drop off).take 1)[0]? = some x := by rw [he]; rfl
        simpa using h4
      exact ⟨x, hx, by simp [this]⟩
    · cases hv

theorem fillV_ok {place : Nat → Option (Nat × Nat)} : ∀ {parts : List (Nat × Operand)} {ps : List (Nat × Nat × Rd)} {cells out : List VV} {rs : List Value},
    partsB place N parts = some ps → (∀ p ∈ parts, RdR φ N env a p.2) → denL φ cells = some rs → fillV env cells ps = some out →
    ∃ l, denL φ out = some l ∧ Instr.fill place rs.toArray (parts.map fun p => (p.1, a.eval p.2)) = some l.toArray
  | [], ps, cells, out, rs, hp, _, hc, hf => by
    simp [partsB] at hp; subst hp
    simp [fillV] at hf; subst hf
    exact ⟨rs, hc, by simp [Instr.fill]⟩
  | (i, x) :: parts, ps, cells, out, rs, hp, hr, hc, hf => by
    simp only [partsB] at hp
    split at hp
    · rename_i off n r s hpl hrd hps
      cases hp
      simp only [fillV] at hf
      split at hf
      · rename_i hbeq
        split at hf
        · rename_i c hw
          have hx := (hr (i, x) (by simp)).get hrd
          have hcx := cells_den hx
          obtain ⟨hle, rfl⟩ := wrn_spec hw
          have hlen := denL_length hcx
          rw [llen_eq] at hbeq
          have hn : (r.ev env).cells.length = n := Nat.eq_of_beq_eq_true hbeq
          have hcl := denL_length hc
          have hc' : denL φ (cells.take off ++ (r.ev env).cells ++ cells.drop (off + (r.ev env).cells.length)) = some (rs.take off ++ (a.eval x).cells.toList ++ rs.drop (off + (r.ev env).cells.length)) :=
            denL_append.2 ⟨_, _, denL_append.2 ⟨_, _, denL_take off hc, hcx, rfl⟩, denL_drop _ hc, rfl⟩
          obtain ⟨l, h1, h2⟩ := fillV_ok hps (fun p hp => hr p (by simp [hp])) hc' hf
          refine ⟨l, h1, ?_⟩
          simp only [List.map_cons, Instr.fill, hpl]
          have hsz : (a.eval x).cells.size = n := by rw [← hn, ← hlen]; simp
          rw [if_neg (by simp [hsz]; omega)]
          rw [← h2]
          congr 1
          -- the fold lays the cells
          have key : ∀ (xs : List Value) (k : Nat) (base : List Value), off + k + xs.length ≤ base.length →
              (xs.zipIdx k).foldl (fun cs (p : Value × Nat) => cs.setIfInBounds (off + p.2) p.1) base.toArray = (base.take (off + k) ++ xs ++ base.drop (off + k + xs.length)).toArray := by
            intro xs
            induction xs with
            | nil => intro k base _; simp
            | cons y ys ih =>
              intro k base hb
              simp only [List.zipIdx_cons, List.foldl_cons]
              have hset : base.toArray.setIfInBounds (off + k) y = (base.set (off + k) y).toArray := by simp
              rw [hset, ih (k + 1) _ (by simp at hb ⊢; omega)]
              congr 1
              have := list_seg_step base (off + k) y ys (by simpa [Nat.add_assoc] using hb)
              simpa [Nat.add_assoc, Nat.add_comm, Nat.add_left_comm] using this
          have := key (a.eval x).cells.toList 0 rs (by simp [hsz]; omega)
          simp only [Nat.add_zero] at this
          have hsz2 : (a.eval x).cells.toList.length = (r.ev env).cells.length := by rw [hlen]
          rw [hsz2] at this
          rw [← this]
          conv => lhs; rw [← Array.foldl_toList]
          simp
        · cases hf
      · cases hf
    · cases hp
end
end Go.SL
