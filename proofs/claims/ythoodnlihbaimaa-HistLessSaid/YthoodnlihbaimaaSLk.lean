/- A symbolic executor over the model: regions in their order, and code. -/
import Derived.Test.YthoodnlihbaimaaSLj
import Derived.Scope
namespace Go.SL
section
variable {P : Program} {W0 : World} {RE : (Env → List VB → Prop) → Env → List VB → Prop} {o : Ops (Ev P W0) RE} {cand : List TypeId} {N : Nat} {φ : Phi} {env : Env} {a : Act} {V : List VB} {h : Nat → Frag} {w : World}

theorem den_notbool {v : VV} {b : Bool} (hv : den φ v = some (.bool b)) : v = .bool b ∨ v = .raw (.bool b) := by
  cases v <;> simp only [den] at hv
  case raw x => cases hv; exact .inr rfl
  all_goals left
  case bool c => simp at hv; subst hv; rfl
  all_goals first
    | (simp at hv; done)
    | (simp only [Option.map_eq_some_iff] at hv; obtain ⟨_, _, e⟩ := hv; cases e)
    | (split at hv <;> simp at hv)

theorem yielded_bool {all : Array Oper} {j : Nat} {d : Tmp} (hE : EnvR φ N env a) (hj : (all[j]?).bind (·.dst) = some d) (hd : d < N) :
    (∀ b, env d = .bool b → yielded all a.tmps j = some b) ∧ ((∀ b, env d ≠ .bool b) → (∀ x, env d ≠ .raw x) → yielded all a.tmps j = none) := by
  obtain ⟨x, h1, h2⟩ := hE.val d hd
  unfold yielded
  simp only [hj, Option.bind_some, h2]
  constructor
  · intro b hb
    rw [hb] at h1
    have := den_bool.1 h1
    subst this; rfl
  · intro hn hn2
    cases x <;> first | rfl | (rcases den_notbool h1 with h | h <;> first | exact absurd h (hn _) | exact absurd h (hn2 _))

theorem EnvR.lit {g : Nat} {b : Bool} (hE : EnvR φ N env a) (hg : env g = .bool b) : EnvR φ N (SL.put env (some g) (.bool b)) a := by
  refine ⟨hE.size, fun t ht => ?_⟩
  obtain ⟨x, h1, h2⟩ := hE.val t ht
  refine ⟨x, ?_, h2⟩
  simp only [SL.put]
  split
  · rename_i e; have e := Nat.eq_of_beq_eq_true e; subst e; rw [← hg]; exact h1
  · exact h1

/-- What a piece of code, or of a region, may leave behind. -/
def PostV (W0 : World) (N : Nat) (φ : Phi) (h : Nat → Frag) (w : World) (K : Env → List VB → Prop) (a' : Act) (w' : World) : Prop :=
  ∃ env V φ' h', K env V ∧ φ.le φ' ∧ EnvR φ' N env a' ∧ Emb W0 φ' V h' w' ∧ Fr h h' w w' ∧ a'.defers = []

theorem put_defers' {d : Option Tmp} {v : Value} : (a.put d v).defers = a.defers := by cases d <;> rfl

theorem dstOk {o : Oper} (h : dstB N o.dst = true) : ∀ t, o.dst = some t → t < N := by
  intro t ht; rw [ht] at h; simpa [dstB] using h

theorem wops_ok {all : Array Oper} {Q : Exit → Act → World → Prop} : ∀ {l : List Oper} {r : List IOp} {K : Env → List VB → Prop} {φ : Phi} {env : Env} {a : Act} {V : List VB} {h : Nat → Frag} {w : World},
    compOps P cand N all l = some r → wops o K env V r → EnvR φ N env a → Emb W0 φ V h w → a.defers = [] → (∀ a' w', PostV W0 N φ h w K a' w' → Q .normal a' w') → wpList P all Q l a w
  | [], r, K, φ, env, a, V, h, w, hc, hk, hR, hE, hd, hQ => by
    simp [compOps] at hc; subst hc
    exact hQ a w ⟨env, V, φ, h, hk, Phi.le_refl _, hR, hE, Fr.refl _ _, hd⟩
  | op :: l, r, K, φ, env, a, V, h, w, hc, hk, hR, hE, hd, hQ => by
    simp only [compOps] at hc
    split at hc
    · rename_i i s hi hs
      split at hc
      · rename_i hdst
        have hdst' := dstOk hdst
        have go : ∀ {env0 : Env} {v : VV} {V' : List VB} {φ' : Phi} {h' : Nat → Frag} {w' : World} {x : Value}, EnvR φ N env0 a → wops o K (put env0 op.dst v) V' s → φ.le φ' → Emb W0 φ' V' h' w' → Fr h h' w w' → den φ' v = some x → wpList P all Q l (a.put op.dst x) w' := by
          intro env0 v V' φ' h' w' x hR0 hk' hle hE' hF hx
          refine wops_ok hs hk' ((hR0.mono hle).put hx hdst') hE' (by rw [put_defers']; exact hd) ?_
          rintro a' w'' ⟨env2, V2, φ2, h2, g1, g2, g3, g4, g5, g6⟩
          exact hQ a' w'' ⟨env2, V2, φ2, h2, g1, Phi.le_trans hle g2, g3, g4, hF.trans g5, g6⟩
        have skip : ∀ {env0 : Env}, EnvR φ N env0 a → wops o K (put env0 op.dst vundef) V s → wpList P all Q l (a.put op.dst undef) w := fun hR0 hk' => go hR0 hk' (Phi.le_refl _) hE (Fr.refl _ _) rfl
        have run : ∀ {env0 : Env}, EnvR φ N env0 a → wop o i env0 V (fun v V => wops o K (put env0 op.dst v) V s) → op.wp P a w (wpList P all Q l) Q := by
          intro env0 hR0 hk'
          refine (wop_does hi (fun x _ => hR0.rd x) hE hk').wp ?_
          intro v V' φ' h' w' x k1 k2 k3 k4 k5
          exact go hR0 k1 k2 k3 k4 k5
        unfold wpList
        split at hc
        · rename_i hg
          cases hc
          rw [if_pos (by simp [Region.wanted, hg])]
          exact .inl (run hR hk)
        · rename_i j want hg
          split at hc
          · rename_i d hd'
            split at hc
            · rename_i hdN
              cases hc
              obtain ⟨y1, y2⟩ := yielded_bool hR hd' hdN
              simp only [wops, wost] at hk
              have wt : ∀ {b : Bool}, env d = .bool b → Region.wanted op (yielded all a.tmps) = (b == want) := by
                intro b hb
                simp only [Region.wanted, hg, y1 b hb]
                cases b <;> cases want <;> rfl
              split at hk
              · rename_i b hb
                have hR0 := hR.lit hb
                rw [wt hb]
                cases b
                · have hk2 := ifB_false hk rfl
                  cases want
                  · rw [if_pos (by rfl)]; exact .inl (run hR0 hk2)
                  · rw [if_neg (by decide)]; exact skip hR0 hk2
                · have hk2 := ifB_true hk rfl
                  cases want
                  · rw [if_neg (by decide)]; exact skip hR0 hk2
                  · rw [if_pos (by rfl)]; exact .inl (run hR0 hk2)
              · exact hk.elim
              · rename_i hnb hnr
                have : Region.wanted op (yielded all a.tmps) = false := by
                  simp only [Region.wanted, hg, y2 (fun b hb => hnb b hb) (fun x hx => hnr x hx)]
                  cases want <;> rfl
                rw [if_neg (by rw [this]; decide)]
                exact skip hR hk
            · cases hc
          · cases hc
      · cases hc
    · cases hc

def VX.toExit : VX → Exit
  | .normal => .normal
  | .exit i => .exit i
  | .ret => .ret

/-- The numbers that a call was begun with stand for the same. -/
def Phi.leN (n : Nat) (φ φ' : Phi) : Prop := ∀ i, i < n → ∀ x, φ i = some x → φ' i = some x
theorem Phi.le.toN {φ φ' : Phi} (h : φ.le φ') (n : Nat) : φ.leN n φ' := fun i _ x hx => h i x hx
theorem Phi.leN.trans {n : Nat} {φ φ' φ'' : Phi} (h : φ.leN n φ') (h' : φ'.leN n φ'') : φ.leN n φ'' := fun i hi x e => h' i hi x (h i hi x e)
theorem Phi.leN.refl (n : Nat) (φ : Phi) : φ.leN n φ := fun _ _ _ h => h

/-- Another virtual heap, for the same frame and world. -/
def Re (W0 : World) (N n0 : Nat) (K : Env → List VB → Prop) (env : Env) (V : List VB) : Prop :=
  ∀ φ h w a, Emb W0 φ V h w → EnvR φ N env a → ∃ env1 V1 φ1 h1, K env1 V1 ∧ φ.leN n0 φ1 ∧ EnvR φ1 N env1 a ∧ Emb W0 φ1 V1 h1 w ∧ Fr h h1 w w

def PostN (W0 : World) (N n0 : Nat) (φ : Phi) (h : Nat → Frag) (w : World) (K : Env → List VB → Prop) (a' : Act) (w' : World) : Prop :=
  ∃ env V φ' h', K env V ∧ φ.leN n0 φ' ∧ EnvR φ' N env a' ∧ Emb W0 φ' V h' w' ∧ Fr h h' w w' ∧ a'.defers = []
theorem PostV.toN {K : Env → List VB → Prop} {a' : Act} {w' : World} (n0 : Nat) (hp : PostV W0 N φ h w K a' w') : PostN W0 N n0 φ h w K a' w' :=
  let ⟨env, V, φ', h', g1, g2, g⟩ := hp; ⟨env, V, φ', h', g1, g2.toN n0, g⟩
theorem PostN.mono {n0 : Nat} {K K' : Env → List VB → Prop} {a' : Act} {w' : World} (hp : PostN W0 N n0 φ h w K a' w') (hk : ∀ env V, K env V → K' env V) : PostN W0 N n0 φ h w K' a' w' :=
  let ⟨env, V, φ', h', g1, g⟩ := hp; ⟨env, V, φ', h', hk _ _ g1, g⟩
theorem PostN.trans {n0 : Nat} {φ' : Phi} {h' : Nat → Frag} {w' w'' : World} {K : Env → List VB → Prop} {a' : Act} (hle : φ.leN n0 φ') (hF : Fr h h' w w') (hp : PostN W0 N n0 φ' h' w' K a' w'') : PostN W0 N n0 φ h w K a' w'' :=
  let ⟨env, V, φ2, h2, g1, g2, g3, g4, g5, g6⟩ := hp; ⟨env, V, φ2, h2, g1, hle.trans g2, g3, g4, hF.trans g5, g6⟩

/-- What code may leave behind. -/
def PostX (W0 : World) (N n0 : Nat) (φ : Phi) (h : Nat → Frag) (w : World) (K : VX → Env → List VB → Prop) (e : Exit) (a' : Act) (w' : World) : Prop :=
  ∃ x, e = x.toExit ∧ PostN W0 N n0 φ h w (K x) a' w'

theorem PostV.trans {φ' : Phi} {h' : Nat → Frag} {w' w'' : World} {K : Env → List VB → Prop} {a' : Act} (hle : φ.le φ') (hF : Fr h h' w w') (hp : PostV W0 N φ' h' w' K a' w'') : PostV W0 N φ h w K a' w'' :=
  let ⟨env, V, φ2, h2, g1, g2, g3, g4, g5, g6⟩ := hp; ⟨env, V, φ2, h2, g1, Phi.le_trans hle g2, g3, g4, hF.trans g5, g6⟩

/-- A region that draws is met: the statement that `SLl` proves. -/
def DrawsOk (P : Program) (W0 : World) (o : Ops (Ev P W0) RE) (cand : List TypeId) (N : Nat) : Prop :=
  ∀ (id : Nat) (ops : Array Oper) (l : List IOp) (K : Env → List VB → Prop) (φ : Phi) (env : Env) (a : Act) (V : List VB) (h : Nat → Frag) (w : World) (Q : Exit → Act → World → Prop),
    compOps P cand N ops ops.toList = some l → schedOk ops l (order l) = true → wdr o K [] env V (order l) →
    EnvR φ N env a → Emb W0 φ V h w → a.defers = [] → (∀ a' w', PostV W0 N φ h w K a' w' → Q .normal a' w') → (Code.region id ops true).wp P Q a w

theorem comp_ok {n0 : Nat} {o : Ops (Ev P W0) (Re W0 N n0)} (hdr : DrawsOk P W0 o cand N) : ∀ {c : Code} {ic : IC} {K : VX → Env → List VB → Prop} {φ : Phi} {env : Env} {a : Act} {V : List VB} {h : Nat → Frag} {w : World},
    comp P cand N c = some ic → wpI o ic K env V → EnvR φ N env a → Emb W0 φ V h w → a.defers = [] → c.wp P (PostX W0 N n0 φ h w K) a w
  | .skip, ic, K, φ, env, a, V, h, w, hc, hk, hR, hE, hd => by
    simp [comp] at hc; subst hc
    exact wp_skip ⟨.normal, rfl, env, V, φ, h, hk, Phi.leN.refl _ _, hR, hE, Fr.refl _ _, hd⟩
  | .region id ops draw, ic, K, φ, env, a, V, h, w, hc, hk, hR, hE, hd => by
    simp only [comp] at hc
    split at hc
    · rename_i l hl
      cases draw with
      | false => cases hc; exact wp_region_list (wops_ok hl hk hR hE hd fun a' w' hp => ⟨.normal, rfl, hp.toN n0⟩)
      | true =>
        simp only at hc
        split at hc
        · rename_i hs
          cases hc
          exact hdr id ops l _ φ env a V h w _ hl hs hk hR hE hd fun a' w' hp => ⟨.normal, rfl, hp.toN n0⟩
        · cases hc
    · cases hc
  | .seq c1 c2, ic, K, φ, env, a, V, h, w, hc, hk, hR, hE, hd => by
    simp only [comp] at hc
    split at hc
    · rename_i x y hx hy
      cases hc
      simp only [wpI] at hk
      refine wp_seq (wp_mono (comp_ok hdr hx hk hR hE hd) ?_)
      rintro e a' w' ⟨vx, rfl, env', V', φ', h', g1, g2, g3, g4, g5, g6⟩
      cases vx with
      | normal =>
        refine wp_mono (comp_ok hdr hy g1 g3 g4 g6) ?_
        rintro e2 a2 w2 ⟨vx2, rfl, hp⟩
        exact ⟨vx2, rfl, hp.trans g2 g5⟩
      | exit i => exact ⟨.exit i, rfl, env', V', φ', h', g1, g2, g3, g4, g5, g6⟩
      | ret => exact ⟨.ret, rfl, env', V', φ', h', g1, g2, g3, g4, g5, g6⟩
    · cases hc
  | .cond c c1 c2, ic, K, φ, env, a, V, h, w, hc, hk, hR, hE, hd => by
    simp only [comp] at hc
    split at hc
    · rename_i r x y hr hx hy
      cases hc
      simp only [wpI] at hk
      have d1 := hR.rd c r hr
      split at hk
      · rename_i t ht
        rw [ht, den_bool.2 rfl] at d1
        injection d1 with d1
        cases t with
        | true => exact wp_cond_true d1.symm (comp_ok hdr hx (ifB_true hk rfl) hR hE hd)
        | false => exact wp_cond_false d1.symm (comp_ok hdr hy (ifB_false hk rfl) hR hE hd)
      · exact hk.elim
    · cases hc
  | .block id c, ic, K, φ, env, a, V, h, w, hc, hk, hR, hE, hd => by
    simp only [comp, Option.map_eq_some_iff] at hc
    obtain ⟨x, hx, rfl⟩ := hc
    simp only [wpI] at hk
    refine wp_block (wp_mono (comp_ok hdr hx hk hR hE hd) ?_)
    rintro e a' w' ⟨vx, rfl, hp⟩
    cases vx with
    | normal => exact ⟨.normal, rfl, hp⟩
    | exit i =>
      simp only [VX.toExit, Exit.inBlock]
      by_cases hi : i = id
      · subst hi
        rw [if_pos rfl]
        refine ⟨.normal, rfl, hp.mono fun env V hk => ?_⟩
        simpa using hk
      · rw [if_neg hi]
        refine ⟨.exit i, rfl, hp.mono fun env V hk => ?_⟩
        have : Nat.beq i id = false := by
          cases hb : Nat.beq i id with
          | false => rfl
          | true => exact absurd (Nat.eq_of_beq_eq_true hb) hi
        simp only [this] at hk
        exact hk
    | ret => exact ⟨.ret, rfl, hp⟩
  | .loop c, ic, K, φ, env, a, V, h, w, hc, hk, hR, hE, hd => by
    simp only [comp, Option.map_eq_some_iff] at hc
    obtain ⟨x, hx, rfl⟩ := hc
    simp only [wpI] at hk
    obtain ⟨Inv, ⟨m0, h0⟩, hround⟩ := hk
    have hex : ∀ n, ∀ φ' h' env' V' a' w', Inv n env' V' → φ.leN n0 φ' → EnvR φ' N env' a' → Emb W0 φ' V' h' w' → Fr h h' w w' → a'.defers = [] →
        ∀ (b : Frame) (k : List Item) (cs : List Frame), ∃ e a'' w'', PostX W0 N n0 φ h w K e a'' w'' ∧ Arrives P (lone (b.at a' (.code c :: .inLoop c :: k)) cs w') b k cs e a'' w'' := by
      intro n
      induction n using Nat.strongRecOn with
      | _ n ih =>
        intro φ' h' env' V' a' w' hi hle hR' hE' hF hd' b k cs
        obtain ⟨e, a1, w1, hq, harr⟩ := comp_ok hdr hx (hround n env' V' hi) hR' hE' hd' b (.inLoop c :: k) cs
        obtain ⟨vx, rfl, env1, V1, φ1, h1, g1, g2, g3, g4, g5, g6⟩ := hq
        cases vx with
        | normal =>
          obtain ⟨n', hn', g1⟩ := g1
          rw [o.re_eq] at g1
          obtain ⟨env3, V3, φ3, h3, q1, q2, q3, q4, q5⟩ := g1 φ1 h1 w1 a1 g4 g3
          obtain ⟨e2, a2, w2, hq2, harr2⟩ := ih n' hn' φ3 h3 env3 V3 a1 w1 q1 ((hle.trans g2).trans q2) q3 q4 ((hF.trans g5).trans q5) g6 b k cs
          exact ⟨e2, a2, w2, hq2, .of_steps (Steps.trans harr (.one step_inLoop)) harr2⟩
        | exit i => exact ⟨_, a1, w1, ⟨.exit i, rfl, env1, V1, φ1, h1, g1, hle.trans g2, g3, g4, hF.trans g5, g6⟩, .pass (x := .inLoop c) rfl (fun _ _ => .inl (by simp [VX.toExit])) harr⟩
        | ret => exact ⟨_, a1, w1, ⟨.ret, rfl, env1, V1, φ1, h1, g1, hle.trans g2, g3, g4, hF.trans g5, g6⟩, .pass (x := .inLoop c) rfl (fun _ _ => .inl (by simp [VX.toExit])) harr⟩
    intro b k cs
    rw [o.re_eq] at h0
    obtain ⟨env3, V3, φ3, h3, q1, q2, q3, q4, q5⟩ := h0 φ h w a hE hR
    obtain ⟨e, a', w', hq, harr⟩ := hex _ φ3 h3 env3 V3 a w q1 q2 q3 q4 q5 hd b k cs
    exact ⟨e, a', w', hq, .of_steps (.one step_loop) harr⟩
  | .exit i, ic, K, φ, env, a, V, h, w, hc, hk, hR, hE, hd => by
    simp [comp] at hc; subst hc
    exact wp_exit ⟨.exit i, rfl, env, V, φ, h, hk, Phi.leN.refl _ _, hR, hE, Fr.refl _ _, hd⟩
  | .ret, ic, K, φ, env, a, V, h, w, hc, hk, hR, hE, hd => by
    simp [comp] at hc; subst hc
    exact wp_ret ⟨.ret, rfl, env, V, φ, h, hk, Phi.leN.refl _ _, hR, hE, Fr.refl _ _, hd⟩
  | .label l, ic, K, φ, env, a, V, h, w, hc, hk, hR, hE, hd => by
    simp [comp] at hc; subst hc
    exact wp_label ⟨.normal, rfl, env, V, φ, h, hk, Phi.leN.refl _ _, hR, hE, Fr.refl _ _, hd⟩
  | .rangeFunc .., ic, K, φ, env, a, V, h, w, hc, hk, hR, hE, hd => by simp [comp] at hc
  | .scope c, ic, K, φ, env, a, V, h, w, hc, hk, hR, hE, hd => by
    simp only [comp] at hc
    refine wp_scope_straight (wp_mono (comp_ok hdr hc hk hR hE hd) ?_)
    rintro e a' w' ⟨vx, rfl, hp⟩
    cases vx <;> exact ⟨_, rfl, hp⟩
  | .goto _, ic, K, φ, env, a, V, h, w, hc, hk, hR, hE, hd => by simp [comp] at hc
  | .refuse _, ic, K, φ, env, a, V, h, w, hc, hk, hR, hE, hd => by simp [comp] at hc
end
end Go.SL
