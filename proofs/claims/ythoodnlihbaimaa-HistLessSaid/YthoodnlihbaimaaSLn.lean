/- A symbolic executor over the model: a call, from its body. -/
import Derived.Test.YthoodnlihbaimaaSLm
namespace Go.SL

inductive RV where
  | tmp (t : Nat)
  | cell (t n : Nat) (agg : Bool)
def resB (P : Program) (N : Nat) : List ResultVar → Option (List RV)
  | [] => some []
  | .tmp t :: l => match resB P N l with
    | some r => if t < N then some (.tmp t :: r) else none
    | none => none
  | .cell a t :: l => match resB P N l, isAggB P t, sizeB P t with
    | some r, some g, some n => if a < N ∧ (g = true ∨ n = 1) then some (.cell a n g :: r) else none
    | _, _, _ => none

section
variable {EV : FuncId → List VV → List VB → (VV → List VB → Prop) → Prop} {RE : (Env → List VB → Prop) → Env → List VB → Prop} (o : Ops EV RE)
def resVal (env : Env) (V : List VB) : List RV → Option (List VV)
  | [] => some []
  | .tmp t :: l => match resVal env V l with
    | some r => some (env t :: r)
    | none => none
  | .cell t n g :: l => match ldAt o (env t) n g V with
    | some v => match resVal env V l with
      | some r => some (v :: r)
      | none => none
    | none => none
def retK (rs : List RV) (Q : VV → List VB → Prop) (x : VX) (env : Env) (V : List VB) : Prop :=
  match x with
  | .exit _ => False
  | _ => match resVal o env V rs with
    | some [v] => Q v V
    | some l => Q (.tup l) V
    | none => False
end
def envOf (args : List VV) : Env := fun t => match lget args t with
  | some v => v
  | none => vundef

section
variable {P : Program} {W0 : World} {RE : (Env → List VB → Prop) → Env → List VB → Prop} {o : Ops (Ev P W0) RE} {cand : List TypeId} {N : Nat}

/-- One result. -/
def resOne (tmps : Array Value) : ResultVar → Sem Value
  | .tmp t => pure (tmps.getD t undef)
  | .cell b t => do loadVar t (← asAddr (tmps.getD b undef))

theorem resVal_run {φ : Phi} {env : Env} {a : Act} {V : List VB} {h : Nat → Frag} {w : World} (hR : EnvR φ N env a) (hE : Emb W0 φ V h w) :
    ∀ {rs : List ResultVar} {rv : List RV} {l : List VV}, resB P N rs = some rv → resVal o env V rv = some l →
      ∃ xs, denL φ l = some xs ∧ (rs.mapM (resOne a.tmps)).run P w = .ok xs w
  | [], rv, l, hb, hv => by
    simp [resB] at hb; subst hb
    simp [resVal] at hv; subst hv
    exact ⟨[], rfl, by simp⟩
  | .tmp t :: rs, rv, l, hb, hv => by
    simp only [resB] at hb
    split at hb
    · rename_i r hr
      split at hb
      · rename_i ht
        cases hb
        simp only [resVal] at hv
        split at hv
        · rename_i s hs
          cases hv
          obtain ⟨xs, h1, h2⟩ := resVal_run hR hE hr hs
          obtain ⟨x, g1, g2⟩ := hR.val t ht
          refine ⟨x :: xs, denL_cons.2 ⟨x, xs, g1, h1, rfl⟩, ?_⟩
          rw [List.mapM_cons]
          simp only [resOne, Sem.run_bind, Sem.run_pure, Result.andThen_ok, h2]
          simp [g2]
        · cases hv
      · cases hb
    · cases hb
  | .cell b t :: rs, rv, l, hb, hv => by
    simp only [resB] at hb
    split at hb
    · rename_i r g n hr hg hn
      split at hb
      · rename_i hcond
        cases hb
        simp only [resVal] at hv
        split at hv
        · rename_i v hld
          split at hv
          · rename_i s hs
            cases hv
            obtain ⟨xs, h1, h2⟩ := resVal_run hR hE hr hs
            obtain ⟨b', off', lv', rs', g1, g2, g3, g4, g5⟩ := ldAt_holds hld hE
            obtain ⟨x, q1, q2⟩ := run_loadVar' (b := b') (off := off') hg hn hcond.2 g3 g5 g2 w g4
            obtain ⟨y, y1, y2⟩ := hR.val b hcond.1
            rw [g1] at y1
            cases y1
            refine ⟨x :: xs, denL_cons.2 ⟨x, xs, q1, h1, rfl⟩, ?_⟩
            rw [List.mapM_cons]
            have : a.tmps.getD b undef = .pointer (some ⟨b', off', none⟩) := by simp [y2]
            simp only [resOne, Sem.run_bind, this, asAddr, Sem.run_pure, Result.andThen_ok, q2, h2]
          · cases hv
        · cases hv
      · cases hb
    · cases hb

theorem ev_body {f : FuncId} {fn : Func} {c : Code} {ic : IC} {args : List VV} {V : List VB} {Q : VV → List VB → Prop} {rv : List RV} (hf : P.funcs[f]? = some fn) (hb : fn.body = some c)
    (hname : (fn.name != "runtime.NumGoroutine") = true) (hmix : P.follows .mixedOrders = true) (hc : comp P cand fn.ntmps c = some ic) (hargs : args.length ≤ fn.ntmps)
    (hres : resB P fn.ntmps fn.results.toList = some rv) (hk : ∀ o : Ops (Ev P W0) (Re W0 fn.ntmps V.length), wpI o ic (retK o rv Q) (envOf args) V) : Ev P W0 f args V Q := by
  refine ⟨by simp [okFn, hf, hname, hb], fun φ h w hE rargs hr => ?_⟩
  refine calls_of_wp hf hb ?_
  have hlen := denL_length hr
  have hR : EnvR φ fn.ntmps (envOf args) { tmps := rargs.toArray ++ Array.replicate (fn.ntmps - rargs.toArray.size) undef, defers := [] } := by
    refine ⟨by simp; omega, fun t ht => ?_⟩
    unfold envOf
    rw [lget_eq]
    by_cases h1 : t < args.length
    · obtain ⟨v, hv⟩ : ∃ v, args[t]? = some v := ⟨args[t], List.getElem?_eq_getElem h1⟩
      obtain ⟨x, g1, g2⟩ := denL_get hr hv
      rw [hv]
      refine ⟨x, g1, ?_⟩
      simp only
      rw [Array.getElem?_append_left (by simp; omega)]
      simpa using g2
    · rw [List.getElem?_eq_none (by omega)]
      refine ⟨undef, rfl, ?_⟩
      simp only
      rw [Array.getElem?_append_right (by simp; omega), Array.getElem?_replicate, if_pos (by simp; omega)]
  refine wp_mono (comp_ok (o := ops (Ev P W0) (Re W0 fn.ntmps V.length)) (draws_ok hmix) hc (hk _) hR hE rfl) ?_
  rintro e a' w' ⟨vx, rfl, env', V', φ', h', g1, g2, g3, g4, g5, g6⟩
  have g2 : φ.le φ' := fun i x hx => g2 i (by
    cases Nat.lt_or_ge i V.length with
    | inl h => exact h
    | inr h => rw [hE.dom i h] at hx; cases hx) x hx
  have fin : ∀ (x : VX), (∀ i, x ≠ .exit i) → retK (ops (Ev P W0) (Re W0 fn.ntmps V.length)) rv Q x env' V' → ∃ v, (results fn a'.tmps).run P w' = .ok v w' ∧ ∃ u x V'' φ'' h'', (Ending.returned v) = .returned x ∧ den φ'' u = some x ∧ Q u V'' ∧ φ.le φ'' ∧ Emb W0 φ'' V'' h'' w' ∧ Fr h h'' w w' := by
    intro x hx hk
    have hk' : match resVal (ops (Ev P W0) (Re W0 fn.ntmps V.length)) env' V' rv with
      | some [v] => Q v V'
      | some l => Q (.tup l) V'
      | none => False := by
      cases x with
      | exit i => exact absurd rfl (hx i)
      | normal => exact hk
      | ret => exact hk
    cases hv : resVal (ops (Ev P W0) (Re W0 fn.ntmps V.length)) env' V' rv with
    | none => simp [hv] at hk'
    | some l =>
      obtain ⟨xs, k1, k2⟩ := resVal_run g3 g4 hres hv
      have hrun : (results fn a'.tmps).run P w' = .ok (if h : xs.toArray.size = 1 then xs.toArray[0] else .tuple xs.toArray) w' := by
        have e0 : results fn a'.tmps = (do
            let vs ← fn.results.mapM (resOne a'.tmps)
            pure (if h : vs.size = 1 then vs[0] else .tuple vs)) := by
          unfold results
          congr 2
        rw [e0]
        simp only [Sem.run_bind, Array.mapM_eq_mapM_toList, Sem.run_map, k2, Result.andThen_ok, Sem.run_pure]
      refine ⟨_, hrun, ?_⟩
      have hl := denL_length k1
      match l, xs, hl, k1, hv with
      | [v], [x], _, k1, hv =>
        simp only [hv] at hk'
        obtain ⟨y, s, q1, q2, q3⟩ := denL_cons.1 k1
        cases q3
        exact ⟨v, x, V', φ', h', by simp, q1, hk', g2, g4, g5⟩
      | [], [], _, k1, hv =>
        simp only [hv] at hk'
        exact ⟨.tup [], .tuple #[], V', φ', h', by simp, rfl, hk', g2, g4, g5⟩
      | u :: v :: l, x :: y :: s, _, k1, hv =>
        simp only [hv] at hk'
        exact ⟨.tup (u :: v :: l), .tuple (x :: y :: s).toArray, V', φ', h', by simp, den_tup.2 ⟨_, k1, rfl⟩, hk', g2, g4, g5⟩
  cases vx with
  | normal => exact ⟨g6, fin .normal (by simp) g1⟩
  | ret => exact ⟨g6, fin .ret (by simp) g1⟩
  | exit i => exact absurd g1 (by simp [retK])
end
end Go.SL
