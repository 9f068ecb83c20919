/- A symbolic executor over the model: a whole virtual heap, closed in itself, as one entry of another. -/
import Derived.Test.YthoodnlihbaimaaSLp
set_option linter.unusedVariables false
set_option linter.unusedSimpArgs false
namespace Go.SL

structure BoxAt (W0 : World) (U : List VB) (φ : Phi) (h : Nat → Frag) (f : Frag) (b : Nat) : Prop where
  head : φ 0 = some (b, 0)
  sub : ∀ (i x : Nat) (o : Obj), h i x = some o → f x = some o
  disj : ∀ (i j x : Nat), i ≠ j → h i x = none ∨ h j x = none
  dom : ∀ i, U.length ≤ i → φ i = none
  sat : ∀ (i : Nat) (vb : VB), U[i]? = some vb → vb.ok W0 φ (h i) i
def Box (W0 : World) (U : List VB) (f : Frag) (b : Nat) : Prop := ∃ φ h, BoxAt W0 U φ h f b
/-- A whole virtual heap as an entry: its first entry stands where this one does. -/
def bx (W0 : World) (U : List VB) : VB := .abs (Box W0 U)
theorem rnB_bx (W0 : World) (U : List VB) (ρ : Nat → Nat) : rnB ρ (bx W0 U) = bx W0 U := rfl

section
variable {P : Program} {W0 : World} {φ : Phi} {V : List VB} {h : Nat → Frag} {w : World}

theorem Emb.openB {k : Nat} {U : List VB} (hE : Emb W0 φ V h w) (hk : V[k]? = some (bx W0 U)) :
    ∃ φ' h', φ.le φ' ∧ Emb W0 φ' (layB (rho [k] V.length) V [k] U) h' w ∧ Fr h h' w w := by
  obtain ⟨b, hφk, φ0, h0, B⟩ := hE.sat k _ hk
  have hkl : k < V.length := (List.getElem?_eq_some_iff.1 hk).1
  obtain ⟨hL, hG⟩ := layB_spec (ρ := rho [k] V.length) (ps := [k]) (V := V) (bs := U) rfl (by simpa using hkl)
  generalize hm : V.length = m at *
  have hpk : ∀ j, j = k → posn [k] j = some 0 := by rintro j rfl; simp [posn]
  have hpn : ∀ j, j ≠ k → posn [k] j = none := by
    intro j hj
    have : Nat.beq k j = false := by
      cases h : Nat.beq k j with
      | false => rfl
      | true => exact absurd (Nat.eq_of_beq_eq_true h).symm hj
    simp [posn, this]
  let φ' : Phi := fun j => if j < m then φ j else φ0 (1 + (j - m))
  let h' : Nat → Frag := fun j => if j = k then h0 0 else if j < m then h j else h0 (1 + (j - m))
  have r0 : rho [k] m 0 = k := rfl
  have r1 : ∀ i, rho [k] m (i + 1) = m + i := fun i => by rw [rho_ge (by simp)]; simp
  have hcomp : ∀ i, φ0 i = φ' (rho [k] m i) := by
    intro i
    cases i with
    | zero => rw [r0]; simp only [φ', if_pos hkl]; rw [B.head, hφk]
    | succ i => rw [r1]; simp only [φ', if_neg (show ¬ m + i < m by omega)]; congr 1; omega
  have hle : φ.le φ' := by
    intro j y hy
    have hjm : j < m := by
      rcases Nat.lt_or_ge j m with h | h
      · exact h
      · rw [hE.dom j (by omega)] at hy; cases hy
    simp only [φ', if_pos hjm]; exact hy
  have cls : ∀ j, (∃ i, h' j = h0 i ∧ rho [k] m i = j) ∨ (j ≠ k ∧ j < m ∧ h' j = h j) := by
    intro j
    by_cases hj : j = k
    · exact .inl ⟨0, by simp only [h', if_pos hj], by rw [r0, hj]⟩
    · by_cases hjm : j < m
      · exact .inr ⟨hj, hjm, by simp only [h', if_neg hj, if_pos hjm]⟩
      · exact .inl ⟨1 + (j - m), by simp only [h', if_neg hj, if_neg hjm], by rw [Nat.add_comm, r1]; omega⟩
  have inj : ∀ i i', rho [k] m i = rho [k] m i' → i = i' := by
    intro i i' e
    cases i <;> cases i' <;> simp only [r0, r1] at e <;> omega
  have apart : ∀ i j x o o', h0 i x = some o → j ≠ k → h j x = some o' → False := by
    intro i j x o o' h1 h2 h3
    have := B.sub i x o h1
    rcases hE.disj j k x h2 with q | q
    · rw [q] at h3; cases h3
    · rw [q] at this; cases this
  refine ⟨φ', h', hle, ⟨hE.size, hE.old, ?_, ?_, ?_, ?_⟩, ⟨Nat.le_refl _, fun _ _ _ => rfl, ?_, Sm.refl w⟩⟩
  · intro j x o hx
    rcases cls j with ⟨i, g1, _⟩ | ⟨_, _, g⟩
    · rw [g1] at hx; exact hE.sub k x o (B.sub i x o hx)
    · rw [g] at hx; exact hE.sub j x o hx
  · intro j j' x hj
    cases hb : h' j x with
    | none => exact .inl rfl
    | some o =>
      right
      cases hc : h' j' x with
      | none => rfl
      | some o2 =>
        rcases cls j with ⟨i, g1, g2⟩ | ⟨g1, _, g3⟩
        · rcases cls j' with ⟨i', q1, q2⟩ | ⟨q1, _, q3⟩
          · have : i ≠ i' := by rintro rfl; exact hj (g2.symm.trans q2)
            rw [g1] at hb; rw [q1] at hc
            rcases B.disj i i' x this with q | q
            · rw [q] at hb; cases hb
            · rw [q] at hc; cases hc
          · rw [g1] at hb; rw [q3] at hc; exact (apart i j' x o o2 hb q1 hc).elim
        · rcases cls j' with ⟨i', q1, q2⟩ | ⟨q1, _, q3⟩
          · rw [g3] at hb; rw [q1] at hc; exact (apart i' j x o2 o hc g1 hb).elim
          · rw [g3] at hb; rw [q3] at hc
            rcases hE.disj j j' x hj with q | q
            · rw [q] at hb; cases hb
            · rw [q] at hc; cases hc
  · intro j hj
    rw [hL] at hj
    have hlen : ¬ j < m := by omega
    simp only [φ', if_neg hlen]
    refine B.dom _ ?_
    simp only [List.length_cons, List.length_nil] at hj
    omega
  · intro j vb hj
    rw [hG j] at hj
    by_cases hjk : j = k
    · rw [hpk j hjk] at hj
      have e1 : h' j = h0 0 := by simp only [h', if_pos hjk]
      cases hb : U[0]? with
      | none => simp only [hb] at hj; cases hj; trivial
      | some u =>
        simp only [hb] at hj
        cases hj
        rw [e1]
        exact (rnB_ok hcomp (by rw [r0, hjk])).2 (B.sat 0 u hb)
    · rw [hpn j hjk] at hj
      by_cases hjm : j < m
      · simp only [if_pos hjm] at hj
        have e1 : h' j = h j := by simp only [h', if_neg hjk, if_pos hjm]
        rw [e1]
        exact VB.ok_mono hle (hE.sat j vb hj) (by intro hn; simp only [φ', if_pos hjm]; exact hn)
      · simp only [if_neg hjm, Option.map_eq_some_iff] at hj
        obtain ⟨u, hu, rfl⟩ := hj
        have e1 : h' j = h0 (1 + (j - m)) := by simp only [h', if_neg hjk, if_neg hjm]
        rw [e1]
        simp only [List.length_cons, List.length_nil, Nat.zero_add] at hu
        exact (rnB_ok hcomp (by rw [Nat.add_comm, r1]; omega)).2 (B.sat _ u hu)
  · intro j x o hx
    rcases cls j with ⟨i, g1, _⟩ | ⟨_, _, g⟩
    · rw [g1] at hx; exact .inl ⟨k, o, B.sub i x o hx⟩
    · rw [g] at hx; exact .inl ⟨j, o, hx⟩

theorem Ev.openB {f : FuncId} {args : List VV} {Q : VV → List VB → Prop} (k : Nat) {U : List VB} (hk : lget V k = some (bx W0 U)) (he : Ev P W0 f args (layB (rho [k] V.length) V [k] U) Q) : Ev P W0 f args V Q := by
  refine ⟨he.1, fun φ h w hE rargs hr => ?_⟩
  obtain ⟨φ', h', hle, hE', hF⟩ := hE.openB (by rw [← lget_eq]; exact hk)
  refine (he.2 φ' h' w hE' rargs (denL_mono hle _ _ hr)).mono ?_
  rintro e w' ⟨v, x, V', φ2, h2, rfl, h3, h4, h5, h6, h7⟩
  exact ⟨v, x, V', φ2, h2, rfl, h3, h4, Phi.le_trans hle h5, h6, hF.trans h7⟩

/-- A call's beginning, an entry being laid open. -/
theorem Ev.outB {f : FuncId} {args : List VV} {Q : VV → List VB → Prop} (k : Nat) {U : List VB} (hk : lget V k = some (bx W0 U))
    (h : ∀ Q' : VV → List VB → Prop, (∀ v V', ReV W0 V.length Q v V' → Q' v V') → Ev P W0 f args (layB (rho [k] V.length) V [k] U) Q') : Ev P W0 f args V Q :=
  Ev.out fun Q' hQ => Ev.openB k hk (h Q' hQ)

def emps (V : List VB) : List Nat → List VB
  | [] => V
  | q :: qs => emps (lset V q .emp) qs
theorem emps_get : ∀ (qs : List Nat) (V : List VB) (j : Nat), (emps V qs)[j]? = if j ∈ qs ∧ j < V.length then some .emp else V[j]?
  | [], V, j => by simp [emps]
  | q :: qs, V, j => by
    rw [emps, emps_get qs, lset_eq, List.length_set]
    by_cases h1 : j ∈ qs ∧ j < V.length
    · rw [if_pos h1, if_pos ⟨by simp [h1.1], h1.2⟩]
    · rw [if_neg h1]
      by_cases h2 : j = q
      · subst h2
        by_cases h3 : j < V.length
        · rw [if_pos ⟨by simp, h3⟩, List.getElem?_set_self h3]
        · rw [if_neg (by simp [h3]), List.getElem?_eq_none (by simpa using h3), List.getElem?_eq_none (by omega)]
      · rw [List.getElem?_set_ne (Ne.symm h2)]
        rw [if_neg]
        rintro ⟨h3, h4⟩
        rcases List.mem_cons.1 h3 with h5 | h5
        · exact h2 h5
        · exact h1 ⟨h5, h4⟩
theorem emps_len : ∀ (qs : List Nat) (V : List VB), (emps V qs).length = V.length
  | [], V => rfl
  | q :: qs, V => by rw [emps, emps_len qs, lset_eq, List.length_set]
def isBlk : Option VB → Bool
  | some (.cells _) => true
  | some (.arr _ _ _) => true
  | some (.chan _ _) => true
  | some (.map _ _) => true
  | some (.abs _) => true
  | _ => false
theorem isBlk_at {k : Nat} (hE : Emb W0 φ V h w) (hb : isBlk (lget V k) = true) : ∃ b, φ k = some (b, 0) := by
  rw [lget_eq] at hb
  cases hk : V[k]? with
  | none => rw [hk] at hb; cases hb
  | some vb =>
    rw [hk] at hb
    have := hE.sat k vb hk
    cases vb <;> first | (cases hb; done) | (obtain ⟨b, h⟩ := this; exact ⟨b, by first | exact h.1 | (obtain ⟨_, h⟩ := h; exact h.1) | (obtain ⟨_, _, h⟩ := h; exact h.1) | (obtain ⟨_, _, _, h⟩ := h; exact h.1) | (obtain ⟨_, _, _, _, h⟩ := h; exact h.1)⟩)
def unionF (h : Nat → Frag) : List Nat → Frag
  | [], _ => none
  | p :: ps, x => match h p x with
    | some o => some o
    | none => unionF h ps x
theorem unionF_own {h : Nat → Frag} {x : Nat} {o : Obj} : ∀ {ps : List Nat}, unionF h ps x = some o → ∃ p ∈ ps, h p x = some o
  | [], e => by simp [unionF] at e
  | p :: ps, e => by
    simp only [unionF] at e
    split at e
    · rename_i o' ho; cases e; exact ⟨p, by simp, ho⟩
    · obtain ⟨q, h1, h2⟩ := unionF_own e; exact ⟨q, by simp [h1], h2⟩
theorem unionF_of {h : Nat → Frag} {x p : Nat} {o : Obj} (hd : ∀ i j, i ≠ j → h i x = none ∨ h j x = none) (hp : h p x = some o) : ∀ {ps : List Nat}, p ∈ ps → unionF h ps x = some o
  | q :: ps, hm => by
    simp only [unionF]
    by_cases hq : q = p
    · subst hq; rw [hp]
    · have : h q x = none := by
        rcases hd q p hq with e | e
        · exact e
        · rw [e] at hp; cases hp
      rw [this]
      rcases List.mem_cons.1 hm with e | e
      · exact absurd e.symm hq
      · exact unionF_of hd hp e

theorem Emb.shut {k : Nat} {qs : List Nat} {U : List VB} (hE : Emb W0 φ V h w) (hd : nodupB (k :: qs) = true) (hb : isBlk (lget V k) = true) (hf : fitB (rho (k :: qs) V.length) V (k :: qs) U) :
    ∃ h', Emb W0 φ (emps (lset V k (bx W0 U)) qs) h' w ∧ Fr h h' w w := by
  obtain ⟨b, hφ⟩ := isBlk_at hE hb
  have hkl : k < V.length := by
    rcases Nat.lt_or_ge k V.length with h | h
    · exact h
    · rw [lget_eq, List.getElem?_eq_none h] at hb; cases hb
  have hkq : ¬ k ∈ qs := by
    intro hm
    simp only [nodupB, hasNat_iff.2 hm] at hd
    cases hd
  have hP := hE.part (Nat.le_refl _) hf hd
  obtain ⟨hl, hg⟩ := fitB_get hf
  have hB : Box W0 U (unionF h (k :: qs)) b := by
    refine ⟨phiPart φ (k :: qs) V.length, hpart U h (k :: qs) V.length, hφ, ?_, hP.disj, hP.dom, hP.sat⟩
    intro i x o hx
    obtain ⟨g1, g2⟩ := hpart_own hx
    have := rho_lt (ps := k :: qs) (m := V.length) (i := i) (by omega)
    exact unionF_of (fun i j => hE.disj i j x) g2 (List.mem_of_getElem? this)
  let h' : Nat → Frag := fun j => if j = k then unionF h (k :: qs) else if j ∈ qs then fun _ => none else h j
  have cls : ∀ j x o, h' j x = some o → (j = k ∧ ∃ p ∈ k :: qs, h p x = some o) ∨ (j ≠ k ∧ ¬ j ∈ qs ∧ h j x = some o) := by
    intro j x o hx
    simp only [h'] at hx
    split at hx
    · rename_i e; exact .inl ⟨e, unionF_own hx⟩
    · rename_i e
      split at hx
      · cases hx
      · rename_i e2; exact .inr ⟨e, e2, hx⟩
  refine ⟨h', ⟨hE.size, hE.old, ?_, ?_, ?_, ?_⟩, ⟨Nat.le_refl _, fun _ _ _ => rfl, ?_, Sm.refl w⟩⟩
  · intro j x o hx
    rcases cls j x o hx with ⟨_, p, _, hp⟩ | ⟨_, _, hp⟩
    · exact hE.sub p x o hp
    · exact hE.sub j x o hp
  · intro i j x hij
    cases hi : h' i x with
    | none => exact .inl rfl
    | some o =>
      right
      cases hj : h' j x with
      | none => rfl
      | some o2 =>
        rcases cls i x o hi with ⟨e1, p, hp, hpx⟩ | ⟨e1, e2, hpx⟩
        · rcases cls j x o2 hj with ⟨q1, _⟩ | ⟨q1, q2, q3⟩
          · exact absurd (e1.trans q1.symm) hij
          · have : p ≠ j := by rintro rfl; exact (List.mem_cons.1 hp).elim q1 q2
            rcases hE.disj p j x this with q | q
            · rw [q] at hpx; cases hpx
            · rw [q] at q3; cases q3
        · rcases cls j x o2 hj with ⟨q1, p, hp, q3⟩ | ⟨q1, q2, q3⟩
          · have : p ≠ i := by rintro rfl; exact (List.mem_cons.1 hp).elim e1 e2
            rcases hE.disj p i x this with q | q
            · rw [q] at q3; cases q3
            · rw [q] at hpx; cases hpx
          · rcases hE.disj i j x hij with q | q
            · rw [q] at hpx; cases hpx
            · rw [q] at q3; cases q3
  · intro i hi
    rw [emps_len, lset_eq, List.length_set] at hi
    exact hE.dom i hi
  · intro j vb hj
    rw [emps_get, lset_eq, List.length_set] at hj
    split at hj
    · cases hj; trivial
    · rename_i hn
      by_cases hjk : j = k
      · subst hjk
        rw [List.getElem?_set_self hkl] at hj
        cases hj
        refine ⟨b, hφ, ?_⟩
        simp only [h', if_pos]
        exact hB
      · rw [List.getElem?_set_ne (Ne.symm hjk)] at hj
        have hjl : j < V.length := (List.getElem?_eq_some_iff.1 hj).1
        have hjq : ¬ j ∈ qs := fun hm => hn ⟨hm, hjl⟩
        simp only [h', if_neg hjk, if_neg hjq]
        exact hE.sat j vb hj
  · intro j x o hx
    rcases cls j x o hx with ⟨_, p, _, hp⟩ | ⟨_, _, hp⟩
    · exact .inl ⟨p, o, hp⟩
    · exact .inl ⟨j, o, hp⟩

theorem ReV.shut {n0 : Nat} {Q : VV → List VB → Prop} {v : VV} (k : Nat) (qs : List Nat) (U : List VB) (hd : nodupB (k :: qs) = true) (hb : isBlk (lget V k) = true) (hf : fitB (rho (k :: qs) V.length) V (k :: qs) U)
    (hr : ReV W0 n0 Q v (emps (lset V k (bx W0 U)) qs)) : ReV W0 n0 Q v V := by
  intro φ hh w x hE hx
  obtain ⟨h', hE', hF⟩ := hE.shut hd hb hf
  obtain ⟨v1, V1, φ1, h1, q, d, l, e, f⟩ := hr φ h' w x hE' hx
  exact ⟨v1, V1, φ1, h1, q, d, l, e, hF.trans f⟩
theorem Re.shut {N n0 : Nat} {K : Env → List VB → Prop} {env : Env} (k : Nat) (qs : List Nat) (U : List VB) (hd : nodupB (k :: qs) = true) (hb : isBlk (lget V k) = true) (hf : fitB (rho (k :: qs) V.length) V (k :: qs) U)
    (hr : Re W0 N n0 K env (emps (lset V k (bx W0 U)) qs)) : Re W0 N n0 K env V := by
  intro φ hh w a hE hR
  obtain ⟨h', hE', hF⟩ := hE.shut hd hb hf
  obtain ⟨env1, V1, φ1, h1, q, l, r, e, f⟩ := hr φ h' w a hE' hR
  exact ⟨env1, V1, φ1, h1, q, l, r, e, hF.trans f⟩
end
end Go.SL
