/- A symbolic executor over the model: a call made among more blocks. -/
import Derived.Test.YthoodnlihbaimaaSLo
namespace Go.SL

def posn : List Nat → Nat → Option Nat
  | [], _ => none
  | p :: ps, j => match Nat.beq p j with
    | true => some 0
    | false => match posn ps j with
      | some i => some (i + 1)
      | none => none
theorem posn_some : ∀ {ps : List Nat} {j i : Nat}, posn ps j = some i → ps[i]? = some j
  | [], _, _, h => by simp [posn] at h
  | p :: ps, j, i, h => by
    simp only [posn] at h
    split at h
    · rename_i hb; cases h; rw [Nat.eq_of_beq_eq_true hb]; rfl
    · split at h
      · rename_i k hk; cases h; simpa using posn_some hk
      · cases h
theorem posn_none : ∀ {ps : List Nat} {j : Nat}, posn ps j = none → ¬ j ∈ ps
  | [], _, _ => by simp
  | p :: ps, j, h => by
    simp only [posn] at h
    split at h
    · cases h
    · rename_i hb
      split at h
      · cases h
      · rename_i hk
        have : ¬ j = p := by rintro rfl; rw [Nat.beq_refl] at hb; cases hb
        simp [this, posn_none hk]
theorem posn_get {ps : List Nat} (hd : nodupB ps = true) {i j : Nat} (h : ps[i]? = some j) : posn ps j = some i := by
  cases hp : posn ps j with
  | none => exact absurd (List.mem_of_getElem? h) (posn_none hp)
  | some k => rw [nodupB_iff hd h (posn_some hp)]

/-- What the call leaves, laid where its blocks came from. -/
def layB (ρ : Nat → Nat) : List VB → List Nat → List VB → List VB
  | V, [], bs => lapp V (bs.map (rnB ρ))
  | V, p :: ps, b :: bs => layB ρ (lset V p (rnB ρ b)) ps bs
  | V, p :: ps, [] => layB ρ (lset V p .emp) ps []
def allLt (m : Nat) : List Nat → Bool
  | [] => true
  | p :: ps => match Nat.ble (p + 1) m with
    | true => allLt m ps
    | false => false
theorem allLt_mem {m : Nat} : ∀ {ps : List Nat}, allLt m ps = true → ∀ p ∈ ps, p < m
  | [], _, _, h => by simp at h
  | q :: ps, h, p, hp => by
    simp only [allLt] at h
    split at h
    · rename_i hb
      rcases List.mem_cons.1 hp with rfl | hp
      · exact Nat.le_of_ble_eq_true hb
      · exact allLt_mem h p hp
    · cases h

theorem layB_spec {ρ : Nat → Nat} : ∀ {ps : List Nat} {V bs : List VB}, nodupB ps = true → (∀ p ∈ ps, p < V.length) →
    (layB ρ V ps bs).length = V.length + (bs.length - ps.length) ∧
    ∀ j, (layB ρ V ps bs)[j]? = match posn ps j with
      | some i => (match bs[i]? with | some b => some (rnB ρ b) | none => some .emp)
      | none => if j < V.length then V[j]? else (bs[ps.length + (j - V.length)]?).map (rnB ρ)
  | [], V, bs, _, _ => by
    refine ⟨by simp [layB, lapp_eq], fun j => ?_⟩
    simp only [layB, lapp_eq, posn, List.length_nil, Nat.zero_add]
    split
    · rename_i h; rw [List.getElem?_append_left h]
    · rename_i h; rw [List.getElem?_append_right (by omega), List.getElem?_map]
  | p :: ps, V, bs, hd, hl => by
    have hp : p < V.length := hl p (by simp)
    simp only [nodupB] at hd
    split at hd
    · cases hd
    · rename_i hn
      have hpn : ¬ p ∈ ps := by intro hm; rw [hasNat_iff.2 hm] at hn; cases hn
      have step : ∀ (u : VB) (cs : List VB), (layB ρ (lset V p u) ps cs).length = V.length + (cs.length - ps.length) ∧ ∀ j, (layB ρ (lset V p u) ps cs)[j]? = match posn ps j with
          | some i => (match cs[i]? with | some b => some (rnB ρ b) | none => some .emp)
          | none => if j < V.length then (V.set p u)[j]? else (cs[ps.length + (j - V.length)]?).map (rnB ρ) := by
        intro u cs
        have := layB_spec (ρ := ρ) (ps := ps) (V := lset V p u) (bs := cs) hd (by rw [lset_eq, List.length_set]; exact fun q hq => hl q (by simp [hq]))
        rw [lset_eq, List.length_set] at this
        rw [lset_eq]; exact this
      have go : ∀ (u : VB) (cs : List VB), (∀ j, j ≠ p → posn ps j = none → j < V.length → (V.set p u)[j]? = V[j]?) := by
        intro u cs j hj _ _
        rw [List.getElem?_set_ne (Ne.symm hj)]
      cases bs with
      | nil =>
        obtain ⟨h1, h2⟩ := step .emp []
        refine ⟨by simp only [layB]; rw [h1]; simp, fun j => ?_⟩
        simp only [layB, posn]
        rw [h2 j]
        by_cases hj : p = j
        · subst hj
          rw [Nat.beq_refl]
          have : posn ps p = none := by
            cases hq : posn ps p with
            | none => rfl
            | some i => exact absurd (List.mem_of_getElem? (posn_some hq)) hpn
          simp [this, hp]
        · have hb : Nat.beq p j = false := by
            cases h : Nat.beq p j with
            | false => rfl
            | true => exact absurd (Nat.eq_of_beq_eq_true h) hj
          rw [hb]
          cases hq : posn ps j with
          | some i => simp
          | none =>
            simp only [List.getElem?_nil, Option.map_none]
            split
            · exact go .emp [] j (Ne.symm hj) hq (by assumption)
            · rfl
      | cons b bs =>
        obtain ⟨h1, h2⟩ := step (rnB ρ b) bs
        refine ⟨by simp only [layB]; rw [h1]; simp, fun j => ?_⟩
        simp only [layB, posn]
        rw [h2 j]
        by_cases hj : p = j
        · subst hj
          rw [Nat.beq_refl]
          have : posn ps p = none := by
            cases hq : posn ps p with
            | none => rfl
            | some i => exact absurd (List.mem_of_getElem? (posn_some hq)) hpn
          simp [this, hp]
        · have hb : Nat.beq p j = false := by
            cases h : Nat.beq p j with
            | false => rfl
            | true => exact absurd (Nat.eq_of_beq_eq_true h) hj
          rw [hb]
          cases hq : posn ps j with
          | some i => simp
          | none =>
            simp only []
            split
            · exact go _ [] j (Ne.symm hj) hq (by assumption)
            · rw [List.length_cons, show ps.length + 1 + (j - V.length) = (ps.length + (j - V.length)) + 1 by omega, List.getElem?_cons_succ]

section
variable {P : Program} {W0 : World}

theorem Ev.lift {f : FuncId} {args0 args : List VV} {V0 V : List VB} {Q0 Q : VV → List VB → Prop} (ps : List Nat) (hd : nodupB ps = true) (hp : allLt V.length ps = true)
    (ha : args = rnL (rho ps V.length) args0) (hf : fitB (rho ps V.length) V ps V0) (he : Ev P W0 f args0 V0 Q0)
    (hq : ∀ v V', Q0 v V' → Q (rn (rho ps V.length) v) (layB (rho ps V.length) V ps V')) : Ev P W0 f args V Q := by
  refine ⟨he.1, fun φ h w hE rargs hr => ?_⟩
  generalize hm : V.length = m at *
  have hE0 := hE.part (by omega) hf hd
  have hlt := allLt_mem hp
  obtain ⟨hl0, hg0⟩ := fitB_get hf
  subst ha
  rw [denL_rn] at hr
  refine (he.2 _ _ w hE0 rargs hr).mono ?_
  rintro e w' ⟨v, x, V', φ0, h0, rfl, hx, hv, hle, hE', hF⟩
  have hspec := layB_spec (ρ := rho ps m) (ps := ps) (V := V) (bs := V') hd (by rw [hm]; exact hlt)
  rw [hm] at hspec
  obtain ⟨hL, hG⟩ := hspec
  -- the numbers and the blocks
  let φ' : Phi := fun j => match posn ps j with
    | some i => φ0 i
    | none => if j < m then φ j else φ0 (ps.length + (j - m))
  let h' : Nat → Frag := fun j => match posn ps j with
    | some i => h0 i
    | none => if j < m then h j else h0 (ps.length + (j - m))
  have in_ : ∀ i j, posn ps j = some i → φ' j = φ0 i ∧ h' j = h0 i ∧ rho ps m i = j := by
    intro i j hj
    refine ⟨by simp only [φ', hj], by simp only [h', hj], ?_⟩
    have h1 := posn_some hj
    have h2 := rho_lt (m := m) (List.getElem?_eq_some_iff.1 h1).1
    rw [h1] at h2; exact (Option.some.inj h2).symm
  have out : ∀ j, posn ps j = none → j < m → φ' j = φ j ∧ h' j = h j := by
    intro j hj hjm
    exact ⟨by simp only [φ', hj, if_pos hjm], by simp only [h', hj, if_pos hjm]⟩
  have new : ∀ j, posn ps j = none → ¬ j < m → φ' j = φ0 (ps.length + (j - m)) ∧ h' j = h0 (ps.length + (j - m)) ∧ rho ps m (ps.length + (j - m)) = j := by
    intro j hj hjm
    refine ⟨by simp only [φ', hj, if_neg hjm], by simp only [h', hj, if_neg hjm], ?_⟩
    rw [rho_ge (by omega)]; omega
  have hcomp : ∀ i, φ0 i = φ' (rho ps m i) := by
    intro i
    by_cases hi : i < ps.length
    · have h1 := rho_lt (m := m) hi
      exact ((in_ i _ (posn_get hd h1)).1).symm
    · rw [rho_ge (by omega)]
      have : posn ps (m + (i - ps.length)) = none := by
        cases hq' : posn ps (m + (i - ps.length)) with
        | none => rfl
        | some k => have := hlt _ (List.mem_of_getElem? (posn_some hq')); omega
      rw [(new _ this (by omega)).1]; congr 1; omega
  have hle' : φ.le φ' := by
    intro j y hy
    have hjm : j < m := by
      rcases Nat.lt_or_ge j m with h | h
      · exact h
      · rw [hE.dom j (by omega)] at hy; cases hy
    cases hj : posn ps j with
    | none => rw [(out j hj hjm).1]; exact hy
    | some i =>
      obtain ⟨g1, _, g3⟩ := in_ i j hj
      rw [g1]
      exact hle i y (by unfold phiPart; rw [g3]; exact hy)
  -- each owner, inside or outside
  have cls : ∀ j, (∃ i, h' j = h0 i ∧ φ' j = φ0 i ∧ rho ps m i = j) ∨ (posn ps j = none ∧ j < m ∧ h' j = h j ∧ φ' j = φ j) := by
    intro j
    cases hj : posn ps j with
    | some i => obtain ⟨g1, g2, g3⟩ := in_ i j hj; exact .inl ⟨i, g2, g1, g3⟩
    | none =>
      by_cases hjm : j < m
      · obtain ⟨g1, g2⟩ := out j hj hjm; exact .inr ⟨rfl, hjm, g2, g1⟩
      · obtain ⟨g1, g2, g3⟩ := new j hj hjm; exact .inl ⟨_, g2, g1, g3⟩
  have apart : ∀ i j b o o', h0 i b = some o → posn ps j = none → h j b = some o' → False := by
    intro i j b o o' h1 h2 h3
    rcases hF.own i b o h1 with ⟨k, o2, hk⟩ | hge
    · obtain ⟨g1, g2⟩ := hpart_own hk
      have hne : rho ps m k ≠ j := by
        intro e
        have := rho_lt (m := m) (ps := ps) (i := k) (by omega)
        rw [e] at this
        exact posn_none h2 (List.mem_of_getElem? this)
      rcases hE.disj _ _ b hne with q | q
      · rw [q] at g2; cases g2
      · rw [q] at h3; cases h3
    · have := (Array.getElem?_eq_some_iff.1 (hE.sub j b o' h3).2).1
      omega
  refine ⟨rn (rho ps m) v, x, layB (rho ps m) V ps V', φ', h', rfl, ?_, hq v V' hv, hle', ⟨hE'.size, hE'.old, ?_, ?_, ?_, ?_⟩, ⟨hF.size, ?_, ?_, hF.sm⟩⟩
  · rw [den_rn, ← funext hcomp]; exact hx
  · intro j b o hb
    rcases cls j with ⟨i, g1, _, _⟩ | ⟨g1, _, g3, _⟩
    · rw [g1] at hb; exact hE'.sub i b o hb
    · rw [g3] at hb
      obtain ⟨k1, k2⟩ := hE.sub j b o hb
      refine ⟨k1, ?_⟩
      rw [hF.keep b (Array.getElem?_eq_some_iff.1 k2).1 ?_]; exact k2
      intro i
      cases hi : hpart V0 h ps m i b with
      | none => rfl
      | some o2 =>
        obtain ⟨q1, q2⟩ := hpart_own hi
        have hne : rho ps m i ≠ j := by
          intro e
          have := rho_lt (m := m) (ps := ps) (i := i) (by omega)
          rw [e] at this
          exact posn_none g1 (List.mem_of_getElem? this)
        rcases hE.disj _ _ b hne with q | q
        · rw [q] at q2; cases q2
        · rw [q] at hb; cases hb
  · intro j k b hjk
    cases hb : h' j b with
    | none => exact .inl rfl
    | some o =>
      right
      cases hc : h' k b with
      | none => rfl
      | some o2 =>
        rcases cls j with ⟨i, g1, _, g3⟩ | ⟨g1, _, g3, _⟩
        · rcases cls k with ⟨i', q1, _, q3⟩ | ⟨q1, _, q3, _⟩
          · have : i ≠ i' := by rintro rfl; exact hjk (g3.symm.trans q3)
            rw [g1] at hb; rw [q1] at hc
            rcases hE'.disj i i' b this with q | q
            · rw [q] at hb; cases hb
            · rw [q] at hc; cases hc
          · rw [g1] at hb; rw [q3] at hc; exact (apart i k b o o2 hb q1 hc).elim
        · rcases cls k with ⟨i', q1, _, q3⟩ | ⟨q1, _, q3, _⟩
          · rw [g3] at hb; rw [q1] at hc; exact (apart i' j b o2 o hc g1 hb).elim
          · rw [g3] at hb; rw [q3] at hc
            rcases hE.disj j k b hjk with q | q
            · rw [q] at hb; cases hb
            · rw [q] at hc; cases hc
  · intro j hj
    rw [hL] at hj
    have h1 : posn ps j = none := by
      cases hq' : posn ps j with
      | none => rfl
      | some k => have := hlt _ (List.mem_of_getElem? (posn_some hq')); omega
    rw [(new j h1 (by omega)).1]
    exact hE'.dom _ (by omega)
  · intro j vb hj
    rw [hG j] at hj
    cases hpj : posn ps j with
    | some i =>
      obtain ⟨g1, g2, g3⟩ := in_ i j hpj
      simp only [hpj] at hj
      cases hb : V'[i]? with
      | none => simp only [hb] at hj; cases hj; trivial
      | some b =>
        simp only [hb] at hj
        cases hj
        rw [g2]
        exact (rnB_ok hcomp g3.symm).2 (hE'.sat i b hb)
    | none =>
      simp only [hpj] at hj
      by_cases hjm : j < m
      · obtain ⟨g1, g2⟩ := out j hpj hjm
        rw [if_pos hjm] at hj
        rw [g2]
        exact VB.ok_mono hle' (hE.sat j vb hj) (by intro hn; rw [g1]; exact hn)
      · obtain ⟨g1, g2, g3⟩ := new j hpj hjm
        rw [if_neg hjm] at hj
        simp only [Option.map_eq_some_iff] at hj
        obtain ⟨b, hb, rfl⟩ := hj
        rw [g2]
        exact (rnB_ok hcomp g3.symm).2 (hE'.sat _ b hb)
  · intro y hy hn
    refine hF.keep y hy fun i => ?_
    cases hi : hpart V0 h ps m i y with
    | none => rfl
    | some o2 => obtain ⟨_, q2⟩ := hpart_own hi; rw [hn _] at q2; cases q2
  · intro j b o hb
    rcases cls j with ⟨i, g1, _, _⟩ | ⟨_, _, g3, _⟩
    · rw [g1] at hb
      rcases hF.own i b o hb with ⟨k, o2, hk⟩ | hge
      · exact .inl ⟨_, _, (hpart_own hk).2⟩
      · exact .inr hge
    · rw [g3] at hb; exact .inl ⟨j, o, hb⟩

theorem Ev.out {f : FuncId} {args : List VV} {V : List VB} {Q : VV → List VB → Prop} (h : ∀ Q' : VV → List VB → Prop, (∀ v V', ReV W0 V.length Q v V' → Q' v V') → Ev P W0 f args V Q') : Ev P W0 f args V Q :=
  Ev.re (h _ fun _ _ h => h)
theorem ReV.id {n0 : Nat} {Q : VV → List VB → Prop} {v : VV} {V : List VB} (hq : Q v V) : ReV W0 n0 Q v V :=
  fun φ h _ _ hE hx => ⟨v, V, φ, h, hq, hx, Phi.leN.refl _ _, hE, Fr.refl _ _⟩
/-- Nothing of the heap is kept. -/
theorem ReV.none {Q : VV → List VB → Prop} {v : VV} {V : List VB} (hv : v = rn (rho [] V.length) v) (hq : Q v []) : ReV W0 0 Q v V := ReV.ren [] v [] rfl rfl hv trivial hq
end
theorem Ops.reI {EV : FuncId → List VV → List VB → (VV → List VB → Prop) → Prop} {RE : (Env → List VB → Prop) → Env → List VB → Prop} (o : Ops EV RE) {K : Env → List VB → Prop} {env : Env} {V : List VB} (h : RE K env V) : o.re K env V := by
  rw [o.re_eq]; exact h
theorem Ops.evI {EV : FuncId → List VV → List VB → (VV → List VB → Prop) → Prop} {RE : (Env → List VB → Prop) → Env → List VB → Prop} (o : Ops EV RE) {f : FuncId} {args : List VV} {V : List VB} {K : VV → List VB → Prop} (h : EV f args V K) : o.ev f args V K := by
  rw [o.ev_eq]; exact h
theorem Ops.call {P : Program} {W0 : World} {RE : (Env → List VB → Prop) → Env → List VB → Prop} (o : Ops (Ev P W0) RE) {f : FuncId} {args0 args : List VV} {V0 V : List VB} {Q0 K : VV → List VB → Prop} (ps : List Nat) (he : Ev P W0 f args0 V0 Q0)
    (ha : args = rnL (rho ps V.length) args0) (hd : nodupB ps = true) (hp : allLt V.length ps = true) (hf : fitB (rho ps V.length) V ps V0)
    (hq : ∀ v V', Q0 v V' → K (rn (rho ps V.length) v) (layB (rho ps V.length) V ps V')) : o.ev f args V K :=
  o.evI (Ev.lift ps hd hp ha hf he hq)
/-- A call of a function that has no business with the heap. -/
theorem Ops.call0 {P : Program} {W0 : World} {RE : (Env → List VB → Prop) → Env → List VB → Prop} (o : Ops (Ev P W0) RE) {f : FuncId} {args0 args : List VV} {V : List VB} {Q0 K : VV → List VB → Prop} (he : Ev P W0 f args0 [] Q0)
    (ha : args = rnL (rho [] V.length) args0) (hq : ∀ v V', Q0 v V' → K (rn (rho [] V.length) v) (lapp V (V'.map (rnB (rho [] V.length))))) : o.ev f args V K :=
  o.call [] he ha rfl rfl trivial hq
theorem add1 {i : Nat} (h : i < 281474976710656) : arith .add .i64 (i : Int) 1 = (i : Int) + 1 := wrap_nat (q := i + 1) (by omega)
/-- Rows in which no number stands. -/
def Plain (xs : List (List VV)) : Prop := ∀ ρ, xs.map (rnL ρ) = xs
theorem Plain.of {α : Type} {f : α → List VV} (h : ∀ a ρ, rnL ρ (f a) = f a) (l : List α) : Plain (l.map f) := fun ρ => by simp [h]
end Go.SL
