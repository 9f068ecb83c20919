/- A symbolic executor over the model: regions that draw their order: one order stands for all. -/
import Derived.Test.YthoodnlihbaimaaSLk
import Derived.OrdersHeld
namespace Go.SL
section
variable {P : Program} {ops : Array Oper} {Q : Exit → Act → World → Prop}

/-- What a load that was taken early asks of the worlds till it comes up. -/
structure RP where
  S : World → Prop
  j : Nat
/-- Does operation i wait for j? -/
def waits (ops : Array Oper) (i j : Nat) : Bool := ((ops[i]?).map fun o => o.after.any fun e => Region.binds .any e && e.on == j).getD false

def wpAnyP (P : Program) (ops : Array Oper) (Q : Exit → Act → World → Prop) : Nat → Array Bool → List RP → Act → World → Prop
  | 0, listed, _, a, w => Region.ready .any ops listed = [] ∧ Q .normal a w
  | fuel + 1, listed, pins, a, w =>
    (Region.ready .any ops listed = [] → Q .normal a w) ∧
    ∀ i ∈ Region.ready .any ops listed, wpOp P ops Q i (fun a' w' => (∀ p ∈ pins, waits ops i p.j = false → p.S w') ∧ wpAnyP P ops Q fuel (listed.setIfInBounds i true) (pins.filter fun p => !waits ops i p.j) a' w') a w

theorem wpAny_of_P : ∀ (fuel : Nat) (listed : Array Bool) (pins : List RP) (a : Act) (w : World), wpAnyP P ops Q fuel listed pins a w → wpAny P .any ops Q fuel listed a w
  | 0, _, _, _, _, h => h
  | fuel + 1, _, _, _, _, h => ⟨h.1, fun i hi => wpOp_mono (fun a' w' h' => wpAny_of_P fuel _ _ a' w' h'.2) (h.2 i hi)⟩

theorem wpAnyP_sub : ∀ (fuel : Nat) (listed : Array Bool) (pins pins' : List RP) (a : Act) (w : World), (∀ p ∈ pins', p ∈ pins) → wpAnyP P ops Q fuel listed pins a w → wpAnyP P ops Q fuel listed pins' a w
  | 0, _, _, _, _, _, _, h => h
  | fuel + 1, _, pins, pins', _, _, hs, h => ⟨h.1, fun i hi => wpOp_mono (fun a' w' h' => ⟨fun p hp hw => h'.1 p (hs p hp) hw, wpAnyP_sub fuel _ _ _ a' w' (fun p hp => by
      simp only [List.mem_filter] at hp ⊢
      exact ⟨hs p hp.1, hp.2⟩) h'.2⟩) (h.2 i hi)⟩

theorem wpAnyP_first {i : Nat} {oi : Oper} {v : Value} {S : World → Prop} (hi : ops[i]? = some oi) (hsel : ∀ (j : Nat) (o : Oper) cs b, ops[j]? = some o → o.op ≠ .select cs b)
    (hQ : ∀ c a w, Q (.panic c) (a.put oi.dst v) w → Q (.panic c) a w) :
    ∀ (fuel : Nat) (listed : Array Bool) (pins : List RP) (a : Act) (w : World),
      (∀ j oj, ops[j]? = some oj → j ≠ i → listed.getD j true = false → (∀ e ∈ oj.after, Region.binds .any e = true → e.on ≠ i) → oi.apart ops oj = true) →
      i ∈ Region.ready .any ops listed → YieldsIf P ops S oi v a → S w → (∀ p ∈ pins, p.S w) →
      wpAnyP P ops Q fuel (listed.setIfInBounds i true) (⟨S, i⟩ :: pins) (a.put oi.dst v) w → wpAnyP P ops Q (fuel + 1) listed pins a w := by
  intro fuel
  induction fuel with
  | zero =>
    intro listed pins a w _ hr hy hS hp H
    refine ⟨fun h => (by rw [h] at hr; cases hr), fun j hj => ?_⟩
    by_cases hji : j = i
    · subst hji; exact hy.wpOp hi hS ⟨fun p hp' _ => hp p hp', H⟩
    · have := ready_mono hj hji
      rw [H.1] at this
      cases this
  | succ fuel ih =>
    intro listed pins a w hfree hr hy hS hp H
    refine ⟨fun h => (by rw [h] at hr; cases hr), fun j hj => ?_⟩
    by_cases hji : j = i
    · subst hji
      refine hy.wpOp hi hS ⟨fun p hp' _ => hp p hp', wpAnyP_sub _ _ _ _ _ _ ?_ H⟩
      intro p hp'
      exact List.mem_cons_of_mem _ (List.mem_filter.1 hp').1
    · have h1 := H.2 j (ready_mono hj hji)
      obtain ⟨hjun, oj, hoj, hall⟩ := mem_ready.1 hj
      have hnot : ∀ e ∈ oj.after, Region.binds .any e = true → e.on ≠ i := fun e he hb heq => by
        have h1 := hall e he hb
        have h0 := (mem_ready.1 hr).1
        rw [heq] at h1
        rcases Nat.lt_or_ge i listed.size with h' | h'
        · simp [h'] at h0 h1; rw [h0] at h1; cases h1
        · simp [Array.getElem?_eq_none h'] at h1
      have hwt : waits ops j i = false := by
        unfold waits
        rw [hoj]
        simp only [Option.map_some, Option.getD_some]
        rw [← Bool.not_eq_true, Array.any_eq_true]
        rintro ⟨k, hk, hb⟩
        simp only [Bool.and_eq_true, beq_iff_eq] at hb
        exact hnot _ (Array.getElem_mem hk) hb.1 hb.2
      have h2 := wpOp_putIf hoj (hfree j oj hoj hji hjun hnot) (fun cs b => hsel i oi cs b hi) (fun cs b => hsel j oj cs b hoj) hQ hy h1
      have hfree' : ∀ k ok, ops[k]? = some ok → k ≠ i → (listed.setIfInBounds j true).getD k true = false →
          (∀ e ∈ ok.after, Region.binds .any e = true → e.on ≠ i) → oi.apart ops ok = true := fun k ok hk hki hun hno => by
        refine hfree k ok hk hki ?_ hno
        by_cases hjk : j = k
        · subst hjk; exact hjun
        · rw [getD_set_ne true hjk] at hun; exact hun
      refine wpOp_mono (fun a' w' h3 => ?_) h2
      obtain ⟨h31, h32, h33⟩ := h3
      have hSw : S w' := h32 ⟨S, i⟩ (by simp) hwt
      refine ⟨fun p hp' hw => h32 p (by simp [hp']) hw, ?_⟩
      refine ih (listed.setIfInBounds j true) _ a' w' hfree' (ready_mono hr (Ne.symm hji)) h31 hSw ?_ ?_
      · intro p hp'
        obtain ⟨m1, m2⟩ := List.mem_filter.1 hp'
        exact h32 p (by simp [m1]) (by simpa using m2)
      · rw [Array.setIfInBounds_comm _ _ hji]
        rw [List.filter_cons, if_pos (by simp [hwt])] at h33
        exact h33
end

section
variable {P : Program} {W0 : World} {RE : (Env → List VB → Prop) → Env → List VB → Prop} {o : Ops (Ev P W0) RE} {cand : List TypeId} {N : Nat}

/-- What is loaded lies there. -/
theorem ldAt_holds {φ : Phi} {V : List VB} {h : Nat → Frag} {w : World} {p v : VV} {n : Nat} {agg : Bool} (hl : ldAt o p n agg V = some v) (hE : Emb W0 φ V h w) :
    ∃ b off lv rs, den φ p = some (.pointer (some ⟨b, off, none⟩)) ∧ pack agg lv = some v ∧ denL φ lv = some rs ∧ holdsAt w b off rs ∧ lv.length = n := by
  have arrs : ∀ (id e e' j off : Nat) (xs : List (List VV)) (cs l' : List VV), p = .elt id e j off → Nat.beq e e' = true → (∃ b s rs, φ id = some (b, s) ∧ denL φ xs.flatten = some rs ∧ (∀ x ∈ xs, x.length = e') ∧ holdsAt w b s rs) →
      o.get xs j = some cs → rdn cs off n = some l' → pack agg l' = some v →
      ∃ b off lv rs, den φ p = some (.pointer (some ⟨b, off, none⟩)) ∧ pack agg lv = some v ∧ denL φ lv = some rs ∧ holdsAt w b off rs ∧ lv.length = n := by
    rintro id e e' j off xs cs l' hev hbe ⟨b, s, rs, hφ, hrs, hlen, hw⟩ hget hrd hpk
    have hee : e = e' := Nat.eq_of_beq_eq_true hbe
    subst hee
    rw [o.get_eq] at hget
    obtain ⟨hle, rfl⟩ := rdn_spec hrd
    have hcl : cs.length = e := hlen cs (List.mem_of_getElem? hget)
    have hcs : cs = (xs.flatten.drop (j * e)).take e := by
      apply List.ext_getElem?
      intro k
      rw [List.getElem?_take, List.getElem?_drop]
      by_cases hk : k < e
      · rw [if_pos hk]
        obtain ⟨u, hu⟩ : ∃ u, cs[k]? = some u := ⟨cs[k]'(by omega), by simp [hcl, hk]⟩
        rw [hu, flatten_get hlen hget k u hu]
      · rw [if_neg hk]; exact List.getElem?_eq_none (by omega)
    have hdc : denL φ cs = some ((rs.drop (j * e)).take e) := by
      rw [hcs]; exact denL_take e (denL_drop _ hrs)
    refine ⟨b, s + (j * e + off), _, _, by rw [hev]; exact den_elt.2 ⟨b, s, hφ, rfl⟩, hpk, denL_take n (denL_drop off hdc), ?_, by simp; omega⟩
    intro k u hk
    rw [List.getElem?_take] at hk
    split at hk
    · rw [List.getElem?_drop, List.getElem?_take] at hk
      split at hk
      · rw [List.getElem?_drop] at hk
        have := hw _ u hk
        rw [show s + (j * e + (off + k)) = s + (j * e + off) + k by omega] at this
        exact this
      · cases hk
    · cases hk
  unfold ldAt at hl
  split at hl
  · rename_i id off
    split at hl
    · rename_i cs hV
      split at hl
      · rename_i l' hrd
        rw [lget_eq] at hV
        obtain ⟨b, rs, T, hφ, hrs, hf⟩ := hE.sat id _ hV
        obtain ⟨hle, rfl⟩ := rdn_spec hrd
        refine ⟨b, 0 + off, _, _, den_ptr.2 ⟨b, 0, hφ, rfl⟩, hl, denL_take n (denL_drop off hrs), ?_, by simp; omega⟩
        intro k u hk
        rw [List.getElem?_take] at hk
        split at hk
        · rw [List.getElem?_drop] at hk
          have hw := (hE.sub id b _ hf).2
          simp only [World.cell?, hw]
          simpa using hk
        · cases hk
      · cases hl
    · cases hl
  · rename_i id e j off
    split at hl
    · rename_i e' xs tot hV
      split at hl
      · rename_i hbe
        split at hl
        · rename_i cs hget
          split at hl
          · rename_i l' hrd
            rw [lget_eq] at hV
            obtain ⟨b, rs, rest, T, hφ, hrs, hf, _, hlen⟩ := hE.sat id _ hV
            refine arrs id e e' j off xs cs l' rfl hbe ⟨b, 0, rs, hφ, hrs, hlen, ?_⟩ hget hrd hl
            intro k u hk
            have hw := (hE.sub id b _ hf).2
            have hkl : k < rs.length := (List.getElem?_eq_some_iff.1 hk).1
            simp only [World.cell?, hw]
            simp [List.getElem?_append_left hkl, hk]
          · cases hl
        · cases hl
      · cases hl
    · rename_i e' xs hV
      split at hl
      · rename_i hbe
        split at hl
        · rename_i cs hget
          split at hl
          · rename_i l' hrd
            rw [lget_eq] at hV
            obtain ⟨b, s, rs, hφ, hrs, hlen, hw⟩ := hE.sat id _ hV
            refine arrs id e e' j off xs cs l' rfl hbe ⟨b, s, rs, hφ, hrs, hlen, ?_⟩ hget hrd hl
            intro k u hk
            have := hw k u hk
            have hlt : b < W0.heap.size := by
              unfold World.cell? at this
              split at this
              · rename_i hb; exact (Array.getElem?_eq_some_iff.1 hb).1
              · cases this
            unfold World.cell? at this ⊢
            rw [hE.old b hlt]
            exact this
          · cases hl
        · cases hl
      · cases hl
    · cases hl
  · cases hl

theorem ld_run {φ : Phi} {env : Env} {a : Act} {op : Oper} {n : Nat} {agg : Bool} {ra : Rd} {b off : Nat} {lv : List VV} {rs : List Value} {v : VV} (hc : compOp P cand N op = some (.ld n agg ra)) (hr : ∀ x ∈ op.op.operands, RdR φ N env a x)
    (hp : den φ (ra.ev env) = some (.pointer (some ⟨b, off, none⟩))) (hpk : pack agg lv = some v) (hl : denL φ lv = some rs) (hlen : lv.length = n) :
    ∃ x, den φ v = some x ∧ ∀ w', holdsAt w' b off rs → (execOp a.eval op).run P w' = .ok (.value x) w' := by
  obtain ⟨dst, op, ty, pos, after, gd⟩ := op
  cases op <;> simp only [compOp] at hc <;> simp only [Op.operands] at hr
  case load t x =>
    split at hc
    · rename_i g n' rx hg hn hx
      split at hc
      · rename_i hgn
        cases hc
        have d1 := (hr x (by simp)).get hx
        have hex : ∃ x', den φ v = some x' := by
          cases agg with
          | true => simp only [pack] at hpk; cases hpk; exact ⟨_, den_agg.2 ⟨_, hl, rfl⟩⟩
          | false =>
            simp only [pack] at hpk
            split at hpk
            · cases hpk
              obtain ⟨x', s, hx', _, _⟩ := denL_cons.1 hl
              exact ⟨x', hx'⟩
            · cases hpk
        obtain ⟨x', hx'⟩ := hex
        refine ⟨x', hx', fun w' hw' => ?_⟩
        obtain ⟨x'', hx'', hrun⟩ := run_loadVar' (b := b) (off := off) hg hn hgn hl hlen hpk w' hw'
        rw [hx'] at hx''
        injection hx'' with hx''
        subst hx''
        rw [hp] at d1
        injection d1 with d1
        simp [execOp, Instr.loadAt, Instr.sureAddr, ← d1, hrun]
      · cases hc
    · cases hc
  all_goals
    exfalso
    first
      | (simp only [Option.map_eq_some_iff] at hc; obtain ⟨_, _, hh⟩ := hc; cases hh; done)
      | (repeat' split at hc
         all_goals first | (cases hc; done) | (simp only [Option.map_eq_some_iff] at hc; obtain ⟨_, _, hh⟩ := hc; cases hh; done) | (simp only [eqI] at hc; split at hc <;> cases hc; done) | (obtain ⟨_, _, hh⟩ := eqsI_is hc; cases hh; done) | (obtain ⟨_, _, _, _, _, h2⟩ := mapI_is hc; first | (obtain ⟨_, _, hh⟩ := mlkI_is h2; cases hh; done) | (simp only [mupI] at h2; cases h2; done) | (simp only [mdlI] at h2; cases h2; done)))

theorem lval_ldAt {op : I} {env : Env} {V : List VB} {v : VV} (h : lval o op env V = some v) : ∃ n agg a, op = .ld n agg a ∧ ldAt o (a.ev env) n agg V = some v := by
  unfold lval at h
  split at h
  · exact ⟨_, _, _, rfl, h⟩
  · cases h

/-- A pin of the real walk, as the virtual one has it. -/
def RPin (φ : Phi) (q : Pin) (r : RP) : Prop :=
  ∃ b off lv rs, den φ q.p = some (.pointer (some ⟨b, off, none⟩)) ∧ pack q.agg lv = some q.v ∧ denL φ lv = some rs ∧ r.j = q.j ∧ ∀ w, holdsAt w b off rs → r.S w
def RPins (φ : Phi) (pins : List Pin) (rps : List RP) : Prop := ∀ r ∈ rps, (∀ w, r.S w) ∨ ∃ q ∈ pins, RPin φ q r

theorem pack_inj {agg : Bool} {l m : List VV} {v : VV} (h1 : pack agg l = some v) (h2 : pack agg m = some v) : l = m := by
  unfold pack at h1 h2
  cases agg <;> simp only at h1 h2
  · split at h1
    · split at h2
      · cases h1; cases h2; rfl
      · cases h2
    · cases h1
  · cases h1; cases h2; rfl

theorem RPin.mono {φ φ' : Phi} {q : Pin} {r : RP} (h : RPin φ q r) (hle : φ.le φ') : RPin φ' q r :=
  let ⟨b, off, lv, rs, h1, h2, h3, h4⟩ := h; ⟨b, off, lv, rs, den_mono hle _ _ h1, h2, denL_mono hle _ _ h3, h4⟩

theorem RPin.holds {φ : Phi} {q : Pin} {r : RP} {V : List VB} {h : Nat → Frag} {w : World} (hr : RPin φ q r) (hl : ldAt o q.p q.n q.agg V = some q.v) (hE : Emb W0 φ V h w) : r.S w := by
  obtain ⟨b, off, lv, rs, h1, h2, h3, _, h5⟩ := hr
  obtain ⟨b', off', lv', rs', g1, g2, g3, g4, _⟩ := ldAt_holds hl hE
  rw [h1] at g1
  injection g1 with g1
  injection g1 with g1
  injection g1 with g1
  injection g1 with e1 e2
  subst e1; subst e2
  have := pack_inj h2 g2
  subst this
  rw [h3] at g3
  injection g3 with g3
  subst g3
  exact h5 w g4

theorem hasNat_eq : ∀ (l : List Nat) (x : Nat), hasNat l x = l.contains x
  | [], x => rfl
  | a :: l, x => by
    simp only [hasNat]
    cases hb : Nat.beq a x with
    | true =>
      have := Nat.eq_of_beq_eq_true hb
      subst this; simp
    | false =>
      simp only
      rw [hasNat_eq l x]
      have : a ≠ x := by rintro rfl; rw [Nat.beq_refl] at hb; cases hb
      simp [Ne.symm this]

theorem mem_keepPins {after : List Nat} {q : Pin} : ∀ {l : List Pin}, q ∈ keepPins after l ↔ q ∈ l ∧ after.contains q.j = false
  | [] => by simp [keepPins]
  | p :: l => by
    simp only [keepPins]
    cases hb : hasNat after p.j with
    | true =>
      rw [hasNat_eq] at hb
      simp only [mem_keepPins, List.mem_cons]
      constructor
      · rintro ⟨h1, h2⟩; exact ⟨.inr h1, h2⟩
      · rintro ⟨h1 | h1, h2⟩
        · subst h1; rw [hb] at h2; cases h2
        · exact ⟨h1, h2⟩
    | false =>
      rw [hasNat_eq] at hb
      simp only [List.mem_cons, mem_keepPins]
      constructor
      · rintro (h | ⟨h1, h2⟩)
        · subst h; exact ⟨.inl rfl, hb⟩
        · exact ⟨.inr h1, h2⟩
      · rintro ⟨h1 | h1, h2⟩
        · exact .inl h1
        · exact .inr ⟨h1, h2⟩

theorem pinsOk_mem : ∀ {l : List Pin} {V : List VB}, pinsOk o l V → ∀ q ∈ l, ldAt o q.p q.n q.agg V = some q.v
  | [], _, _, q, h => by cases h
  | p :: l, V, h, q, hq => by
    cases hq with
    | head => exact h.1
    | tail _ hq => exact pinsOk_mem h.2 q hq
end
end Go.SL
