/- A symbolic executor over the model: loads, blocks that are made, stores, calls. -/
import Derived.Test.YtglghdjpkecngaaGreatSLf
namespace Go.SL

def okFn (P : Program) (f : FuncId) : Bool :=
  match P.funcs[f]? with
  | some fn => fn.name != "runtime.NumGoroutine" && fn.body.isSome
  | none => false

/-- A call that ends, whatever real world the virtual heap lies in. -/
def Ev (P : Program) (W0 : World) (f : FuncId) (args : List VV) (V : List VB) (Q : VV → List VB → Prop) : Prop :=
  okFn P f = true ∧ ∀ φ h w, Emb W0 φ V h w → ∀ rargs, denL φ args = some rargs →
    Calls P f rargs.toArray w fun e w' => ∃ v x V' φ' h', e = .returned x ∧ den φ' v = some x ∧ Q v V' ∧ φ.le φ' ∧ Emb W0 φ' V' h' w' ∧ Fr h h' w w'

theorem Ev.mono {P : Program} {W0 : World} {f : FuncId} {args : List VV} {V : List VB} {Q Q' : VV → List VB → Prop} (h : Ev P W0 f args V Q) (hq : ∀ v V', Q v V' → Q' v V') : Ev P W0 f args V Q' :=
  ⟨h.1, fun φ hh w he rargs hr => (h.2 φ hh w he rargs hr).mono fun _ _ ⟨v, x, V', φ', h', h1, h2, h3, h4⟩ => ⟨v, x, V', φ', h', h1, h2, hq _ _ h3, h4⟩⟩

structure EnvR (φ : Phi) (N : Nat) (env : Env) (a : Act) : Prop where
  size : a.tmps.size = N
  val : ∀ t, t < N → ∃ x, den φ (env t) = some x ∧ a.tmps[t]? = some x

section
variable {P : Program} {W0 : World} {RE : (Env → List VB → Prop) → Env → List VB → Prop} {o : Ops (Ev P W0) RE} {cand : List TypeId} {N : Nat} {φ : Phi} {env : Env} {a : Act} {V : List VB} {h : Nat → Frag} {w : World}

theorem EnvR.rd (hE : EnvR φ N env a) (x : Operand) : RdR φ N env a x := by
  intro r hr
  cases x with
  | tmp t =>
    simp only [SL.rd] at hr
    split at hr
    · rename_i ht
      cases hr
      obtain ⟨x, h1, h2⟩ := hE.val t ht
      simp only [Rd.ev, h1, Act.eval, Array.getD_eq_getD_getElem?, h2, Option.getD_some]
    · cases hr
  | const v =>
    simp only [SL.rd, Option.map_eq_some_iff] at hr
    obtain ⟨y, hy, rfl⟩ := hr
    exact vvAny_den hy φ
  | global g => simp [SL.rd] at hr
  | func f =>
    simp only [SL.rd] at hr
    cases hr
    rfl

theorem EnvR.mono {φ' : Phi} (hE : EnvR φ N env a) (hle : φ.le φ') : EnvR φ' N env a :=
  ⟨hE.size, fun t ht => let ⟨x, h1, h2⟩ := hE.val t ht; ⟨x, den_mono hle _ _ h1, h2⟩⟩

theorem EnvR.put {d : Option Tmp} {v : VV} {x : Value} (hE : EnvR φ N env a) (hv : den φ v = some x) (hd : ∀ t, d = some t → t < N) : EnvR φ N (put env d v) (a.put d x) := by
  cases d with
  | none => exact hE
  | some t0 =>
    have ht0 := hd t0 rfl
    refine ⟨by simp [Act.put, hE.size], fun t ht => ?_⟩
    simp only [SL.put, Act.put]
    by_cases e : t = t0
    · subst e
      have e0 : Nat.beq t t = true := Nat.beq_refl t
      rw [e0]
      exact ⟨x, hv, by rw [Array.getElem?_setIfInBounds]; simp [hE.size, ht]⟩
    · have e0 : Nat.beq t t0 = false := by
        cases h : Nat.beq t t0 with
        | false => rfl
        | true => exact absurd (Nat.eq_of_beq_eq_true h) e
      rw [e0]
      obtain ⟨y, h1, h2⟩ := hE.val t ht
      refine ⟨y, h1, ?_⟩
      rw [Array.getElem?_setIfInBounds_ne (by omega)]
      exact h2

/-! ### Loads -/
def holdsAt (w : World) (b off : Nat) (l : List Value) : Prop := ∀ (j : Nat) (v : Value), l[j]? = some v → w.cell? ⟨b, off + j, none⟩ = some v

theorem flatten_get {xs : List (List VV)} {e : Nat} : ∀ {j : Nat} {cs : List VV}, (∀ x ∈ xs, x.length = e) → xs[j]? = some cs → ∀ (k : Nat) (v : VV), cs[k]? = some v → xs.flatten[j * e + k]? = some v := by
  induction xs with
  | nil => intro j cs _ h; simp at h
  | cons x xs ih =>
    intro j cs hl hj k v hk
    have hx := hl x (by simp)
    cases j with
    | zero =>
      simp at hj; subst hj
      have : k < x.length := (List.getElem?_eq_some_iff.1 hk).1
      simp only [Nat.zero_mul, Nat.zero_add, List.flatten_cons]
      rw [List.getElem?_append_left this]; exact hk
    | succ j =>
      have := ih (fun y hy => hl y (by simp [hy])) (by simpa using hj) k v hk
      rw [List.flatten_cons, List.getElem?_append_right (by rw [hx, Nat.succ_mul]; omega)]
      rw [hx]
      have e1 : (j + 1) * e + k - e = j * e + k := by rw [Nat.succ_mul]; omega
      rw [e1]; exact this

theorem run_loadVar' {t : TypeId} {g : Bool} {n b off : Nat} (hg : isAggB P t = some g) (hn : sizeB P t = some n) (h1 : g = true ∨ n = 1) {l : List VV} {v : VV} {rs : List Value}
    (hl : denL φ l = some rs) (hlen : l.length = n) (hv : pack g l = some v) (w : World) (hw : holdsAt w b off rs) :
    ∃ x, den φ v = some x ∧ (loadVar t ⟨b, off, none⟩).run P w = .ok x w := by
  have hadd : ∀ j, (⟨b, off, none⟩ : Addr).add j = ⟨b, off + j, none⟩ := fun j => by unfold Addr.add; split <;> simp_all
  unfold loadVar
  simp only [Sem.run_bind, run_isAgg' hg, Result.andThen_ok]
  have hrl := denL_length hl
  cases g with
  | true =>
    simp only [pack] at hv
    cases hv
    refine ⟨_, den_agg.2 ⟨_, hl, rfl⟩, ?_⟩
    have := run_loadCells_list (P := P) w ⟨b, off, none⟩ rs (fun j v hj => by rw [hadd]; exact hw j v hj)
    simp only [if_true, Sem.run_bind, run_sizeOf' hn, Result.andThen_ok]
    rw [show n = rs.length by omega, this]
    rfl
  | false =>
    have hn1 : n = 1 := by simpa using h1
    simp only [pack] at hv
    split at hv
    · rename_i u
      cases hv
      obtain ⟨x, s, hx, hs, rfl⟩ := denL_cons.1 hl
      refine ⟨x, hx, ?_⟩
      have := hw 0 x (by simp)
      simp only [Nat.add_zero] at this
      simp [this]
    · cases hv

/-- Where a load reads, what it finds there; the same in every world that has it there. -/
theorem lval_pin {op : Oper} {i : I} (hc : compOp P cand N op = some i) (hr : ∀ x ∈ op.op.operands, RdR φ N env a x) {v : VV} (hv : lval o i env V = some v) (hE : Emb W0 φ V h w) :
    ∃ b off l x, den φ v = some x ∧ holdsAt w b off l ∧ ∀ w', holdsAt w' b off l → (execOp a.eval op).run P w' = .ok (.value x) w' := by
  have none_of : (∀ n g r, i ≠ .ld n g r) → False := by
    intro hne
    cases i <;> simp [lval] at hv
    rename_i n g r
    exact hne n g r rfl
  obtain ⟨dst, op, ty, pos, after, gd⟩ := op
  cases op <;> simp only [compOp] at hc <;> simp only [Op.operands] at hr
  case load t x =>
    split at hc
    · rename_i g n rx hg hn hx
      split at hc
      · rename_i hgn
        cases hc
        have d1 := (hr x (by simp)).get hx
        simp only [lval] at hv
        have fin : ∀ (b off : Nat) (l' : List VV) (rs : List Value), den φ (rx.ev env) = some (.pointer (some ⟨b, off, none⟩)) → denL φ l' = some rs → l'.length = n → pack g l' = some v → holdsAt w b off rs →
            ∃ b off l x', den φ v = some x' ∧ holdsAt w b off l ∧ ∀ w', holdsAt w' b off l → (execOp a.eval ⟨dst, .load t x, ty, pos, after, gd⟩).run P w' = .ok (.value x') w' := by
          intro b off l' rs hp hl hlen hpk hw
          obtain ⟨x', hx', _⟩ := run_loadVar' (b := b) (off := off) hg hn hgn hl hlen hpk w hw
          refine ⟨b, off, rs, x', hx', hw, fun w' hw' => ?_⟩
          obtain ⟨x'', hx'', hrun⟩ := run_loadVar' (b := b) (off := off) hg hn hgn hl hlen hpk w' hw'
          rw [hx'] at hx''
          injection hx'' with hx''
          subst hx''
          rw [hp] at d1
          injection d1 with d1
          simp [execOp, Instr.loadAt, Instr.sureAddr, ← d1, hrun]
        have arrs : ∀ (id e e' j off : Nat) (xs : List (List VV)) (cs l' : List VV), rx.ev env = .elt id e j off → Nat.beq e e' = true → (∃ b s rs, φ id = some (b, s) ∧ denL φ xs.flatten = some rs ∧ (∀ x ∈ xs, x.length = e') ∧ holdsAt w b s rs) →
            o.get xs j = some cs → rdn cs off n = some l' → pack g l' = some v → ∃ b off l x', den φ v = some x' ∧ holdsAt w b off l ∧ ∀ w', holdsAt w' b off l → (execOp a.eval ⟨dst, .load t x, ty, pos, after, gd⟩).run P w' = .ok (.value x') w' := by
          rintro id e e' j off xs cs l' hev hbe ⟨b, s, rs, hφ, hrs, hlen, hw⟩ hget hrd hpk
          have hee : e = e' := Nat.eq_of_beq_eq_true hbe
          subst hee
          rw [o.get_eq] at hget
          obtain ⟨hle, rfl⟩ := rdn_spec hrd
          have hcl : cs.length = e := hlen cs (List.mem_of_getElem? hget)
          -- the cells of the element within the row
          have hcs : cs = (xs.flatten.drop (j * e)).take e := by
            apply List.ext_getElem?
            intro k
            rw [List.getElem?_take, List.getElem?_drop]
            by_cases hk : k < e
            · rw [if_pos hk]
              obtain ⟨u, hu⟩ : ∃ u, cs[k]? = some u := ⟨cs[k]'(by omega), by simp [hcl, hk]⟩
              rw [hu, flatten_get hlen hget k u hu]
            · rw [if_neg hk]; exact List.getElem?_eq_none (by omega)
          have hdc : denL φ cs = some ((rs.drop (j * e)).take e) := by
            rw [hcs]; exact denL_take e (denL_drop _ hrs)
          have hdl := denL_take n (denL_drop off hdc)
          refine fin b (s + (j * e + off)) _ _ ?_ hdl (by simp; omega) hpk ?_
          · rw [hev]; exact den_elt.2 ⟨b, s, hφ, rfl⟩
          · intro k u hk
            rw [List.getElem?_take] at hk
            split at hk
            · rw [List.getElem?_drop, List.getElem?_take] at hk
              split at hk
              · rw [List.getElem?_drop] at hk
                have := hw _ u hk
                rw [show s + (j * e + (off + k)) = s + (j * e + off) + k by omega] at this
                exact this
              · cases hk
            · cases hk
        split at hv
        · rename_i id off hev
          split at hv
          · rename_i cs hV
            split at hv
            · rename_i l' hrd
              rw [lget_eq] at hV
              obtain ⟨b, rs, T, hφ, hrs, hf⟩ := hE.sat id _ hV
              obtain ⟨hle, rfl⟩ := rdn_spec hrd
              have hdl := denL_take n (denL_drop off hrs)
              refine fin b (0 + off) _ _ ?_ hdl (by simp; omega) hv ?_
              · rw [hev]; exact den_ptr.2 ⟨b, 0, hφ, rfl⟩
              · intro k u hk
                rw [List.getElem?_take] at hk
                split at hk
                · rw [List.getElem?_drop] at hk
                  have hw := (hE.sub id b _ hf).2
                  simp only [World.cell?, hw]
                  simpa using hk
                · cases hk
            · cases hv
          · cases hv
        · rename_i id e j off hev
          split at hv
          · rename_i e' xs tot hV
            split at hv
            · rename_i hbe
              split at hv
              · rename_i cs hget
                split at hv
                · rename_i l' hrd
                  rw [lget_eq] at hV
                  obtain ⟨b, rs, rest, T, hφ, hrs, hf, _, hlen⟩ := hE.sat id _ hV
                  refine arrs id e e' j off xs cs l' hev hbe ⟨b, 0, rs, hφ, hrs, hlen, ?_⟩ hget hrd hv
                  intro k u hk
                  have hw := (hE.sub id b _ hf).2
                  have hkl : k < rs.length := (List.getElem?_eq_some_iff.1 hk).1
                  simp only [World.cell?, hw]
                  simp [List.getElem?_append_left hkl, hk]
                · cases hv
              · cases hv
            · cases hv
          · rename_i e' xs hV
            split at hv
            · rename_i hbe
              split at hv
              · rename_i cs hget
                split at hv
                · rename_i l' hrd
                  rw [lget_eq] at hV
                  obtain ⟨b, s, rs, hφ, hrs, hlen, hw⟩ := hE.sat id _ hV
                  refine arrs id e e' j off xs cs l' hev hbe ⟨b, s, rs, hφ, hrs, hlen, ?_⟩ hget hrd hv
                  intro k u hk
                  have := hw k u hk
                  have hlt : b < W0.heap.size := by
                    unfold World.cell? at this
                    split at this
                    · rename_i hb; exact (Array.getElem?_eq_some_iff.1 hb).1
                    · cases this
                  unfold World.cell? at this ⊢
                  rw [hE.old b hlt]
                  exact this
                · cases hv
              · cases hv
            · cases hv
          · cases hv
        · cases hv
      · cases hc
    · cases hc
  all_goals
    exfalso
    apply none_of
    intro n g r hi
    subst hi
    first
      | (simp only [Option.map_eq_some_iff] at hc; obtain ⟨_, _, hh⟩ := hc; cases hh; done)
      | (repeat' split at hc
         all_goals first | (cases hc; done) | (simp only [Option.map_eq_some_iff] at hc; obtain ⟨_, _, hh⟩ := hc; cases hh; done) | (simp only [eqI] at hc; split at hc <;> cases hc; done) | (obtain ⟨_, _, hh⟩ := eqsI_is hc; cases hh; done) | (obtain ⟨_, _, _, _, _, h2⟩ := mapI_is hc; first | (obtain ⟨_, _, hh⟩ := mlkI_is h2; cases hh; done) | (simp only [mupI] at h2; cases h2; done) | (simp only [mdlI] at h2; cases h2; done)))
end
end Go.SL
