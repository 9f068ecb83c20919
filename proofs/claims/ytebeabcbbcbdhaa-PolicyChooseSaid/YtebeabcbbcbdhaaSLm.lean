/- A symbolic executor over the model: regions that draw their order, joined; a call from its body. -/
import Derived.Test.YtebeabcbbcbdhaaSLl
namespace Go.SL
section
variable {P : Program} {W0 : World} {RE : (Env → List VB → Prop) → Env → List VB → Prop} {o : Ops (Ev P W0) RE} {cand : List TypeId} {N : Nat}

/-- The small operation of an operation. -/
structure OpIO (P : Program) (cand : List TypeId) (N : Nat) (all : Array Oper) (op : Oper) (io : IOp) : Prop where
  cmp : compOp P cand N op = some io.op
  dst : io.dst = op.dst
  dstN : dstB N op.dst = true
  gd : (op.guard = none ∧ io.guard = none) ∨ ∃ j want d, op.guard = some (j, want) ∧ (all[j]?).bind (·.dst) = some d ∧ d < N ∧ io.guard = some (d, want)
  after : io.after = (op.after.toList.filter bindsB).map (·.on)

theorem compOps_get {all : Array Oper} : ∀ {l : List Oper} {r : List IOp}, compOps P cand N all l = some r → r.length = l.length ∧ ∀ (k : Nat) (op : Oper), l[k]? = some op → ∃ io, r[k]? = some io ∧ OpIO P cand N all op io
  | [], r, hc => by simp [compOps] at hc; subst hc; exact ⟨rfl, fun k op h => by simp at h⟩
  | op :: l, r, hc => by
    simp only [compOps] at hc
    split at hc
    · rename_i i s hi hs
      obtain ⟨ih1, ih2⟩ := compOps_get hs
      split at hc
      · rename_i hdst
        split at hc
        · rename_i hg
          cases hc
          refine ⟨by simp [ih1], fun k op' hk => ?_⟩
          cases k with
          | zero => simp at hk; subst hk; exact ⟨_, rfl, ⟨hi, rfl, hdst, .inl ⟨hg, rfl⟩, rfl⟩⟩
          | succ k => simpa using ih2 k op' (by simpa using hk)
        · rename_i j want hg
          split at hc
          · rename_i d hd
            split at hc
            · rename_i hdN
              cases hc
              refine ⟨by simp [ih1], fun k op' hk => ?_⟩
              cases k with
              | zero => simp at hk; subst hk; exact ⟨_, rfl, ⟨hi, rfl, hdst, .inr ⟨j, want, d, hg, hd, hdN, rfl⟩, rfl⟩⟩
              | succ k => simpa using ih2 k op' (by simpa using hk)
            · cases hc
          · cases hc
      · cases hc
    · cases hc

theorem mem_number : ∀ {l : List IOp} {n : Nat} {s : DS}, s ∈ number l n → n ≤ s.j ∧ l[s.j - n]? = some s.io
  | [], n, s, h => by simp [number] at h
  | i :: l, n, s, h => by
    simp only [number, List.mem_cons] at h
    rcases h with h | h
    · subst h; simp
    · obtain ⟨h1, h2⟩ := mem_number h
      refine ⟨by omega, ?_⟩
      have : s.j - n = (s.j - (n + 1)) + 1 := by omega
      rw [this]; simpa using h2

theorem mem_sched {ms : List Nat} : ∀ {fuel : Nat} {todo : List DS} {s : DS}, s ∈ sched ms fuel todo → s ∈ todo
  | 0, _, _, h => by simp [sched] at h
  | fuel + 1, todo, s, h => by
    simp only [sched] at h
    split at h
    · rename_i x hx
      rcases List.mem_cons.1 h with h | h
      · subst h; exact List.mem_of_find?_eq_some hx
      · exact (List.mem_filter.1 (mem_sched h)).1
    · split at h
      · cases h
      · rename_i t l _
        split at h
        · rename_i x hx
          rcases List.mem_cons.1 h with h | h
          · subst h; exact List.mem_of_find?_eq_some hx
          · exact (List.mem_filter.1 (mem_sched h)).1
        · cases h

section
variable {ops : Array Oper} {l : List IOp} {ms : List Nat}

/-- What the rest of the order keeps. -/
structure WFs (P : Program) (cand : List TypeId) (N : Nat) (ops : Array Oper) (l : List IOp) (ms : List Nat) (t : List DS) (listed : Array Bool) : Prop where
  pw : pairsOk ops ms t = true
  cov : ∀ i, listed.getD i true = false ↔ ∃ s ∈ t, s.j = i
  sz : listed.size = ops.size
  io : ∀ s ∈ t, l[s.j]? = some s.io ∧ ∃ op, ops[s.j]? = some op ∧ OpIO P cand N ops op s.io
  self : ∀ s ∈ t, s.io.after.contains s.j = false
  bnd : ∀ s ∈ t, ∀ p ∈ s.io.after, p < ops.size
  down : ∀ (i : Nat) (io : IOp), l[i]? = some io → listed.getD i true = true → ∀ p ∈ io.after, listed.getD p true = true

theorem getD_tf {listed : Array Bool} {i : Nat} (h : i < listed.size) : listed.getD i false = listed.getD i true := by simp [h]
theorem getD_true_iff {listed : Array Bool} {i : Nat} : listed.getD i true = true ↔ ¬ listed.getD i true = false := by simp

theorem waits_eq {i j : Nat} {op : Oper} {io : IOp} (hop : ops[i]? = some op) (h : OpIO P cand N ops op io) : waits ops i j = io.after.contains j := by
  unfold waits
  rw [hop, h.after]
  simp only [Option.map_some, Option.getD_some]
  rw [Bool.eq_iff_iff, Array.any_eq_true, List.contains_iff_mem, List.mem_map]
  constructor
  · rintro ⟨k, hk, hb⟩
    simp only [Bool.and_eq_true, beq_iff_eq] at hb
    exact ⟨op.after[k], List.mem_filter.2 ⟨by simp [Array.getElem_mem hk], hb.1⟩, hb.2⟩
  · rintro ⟨e, he, hon⟩
    obtain ⟨h1, h2⟩ := List.mem_filter.1 he
    obtain ⟨k, hk, hke⟩ := Array.getElem_of_mem (Array.mem_toList_iff.1 h1)
    refine ⟨k, hk, ?_⟩
    rw [hke]
    simp only [Bool.and_eq_true, beq_iff_eq]
    exact ⟨h2, hon⟩

theorem edge_after {op : Oper} {io : IOp} (h : OpIO P cand N ops op io) {e : Edge} (he : e ∈ op.after) (hb : Region.binds .any e = true) : e.on ∈ io.after := by
  rw [h.after]
  exact List.mem_map.2 ⟨e, List.mem_filter.2 ⟨by simpa using he, hb⟩, rfl⟩

theorem pairsOk_cons {x : DS} {t : List DS} (h : pairsOk ops ms (x :: t) = true) : (∀ y ∈ t, pairOk ops ms x y = true) ∧ pairsOk ops ms t = true := by
  simp only [pairsOk, Bool.and_eq_true, List.all_eq_true] at h
  exact h

theorem WFs.ready {s : DS} {t : List DS} {listed : Array Bool} (hw : WFs P cand N ops l ms (s :: t) listed) : s.j ∈ Region.ready .any ops listed := by
  obtain ⟨hl, op, hop, hio⟩ := hw.io s (by simp)
  refine mem_ready.2 ⟨(hw.cov s.j).2 ⟨s, by simp, rfl⟩, op, hop, fun e he hb => ?_⟩
  have hm := edge_after hio he hb
  have hlt : e.on < listed.size := by rw [hw.sz]; exact hw.bnd s (by simp) _ hm
  rw [getD_tf hlt]
  rw [getD_true_iff]
  intro hun
  obtain ⟨s', hs', hj⟩ := (hw.cov e.on).1 hun
  rcases List.mem_cons.1 hs' with h | h
  · subst h
    have := hw.self s' (by simp)
    rw [hj] at this
    exact absurd (List.contains_iff_mem.2 hm) (by rw [this]; decide)
  · have := (pairsOk_cons hw.pw).1 s' h
    simp only [pairOk, Bool.and_eq_true] at this
    have h2 := this.1.1.2
    rw [hj] at h2
    rw [List.contains_iff_mem.2 hm] at h2
    cases h2

theorem WFs.next {s : DS} {t : List DS} {listed : Array Bool} (hw : WFs P cand N ops l ms (s :: t) listed) : WFs P cand N ops l ms t (listed.setIfInBounds s.j true) := by
  obtain ⟨hl, op, hop, hio⟩ := hw.io s (by simp)
  have hlt : s.j < listed.size := by rw [hw.sz]; exact (Array.getElem?_eq_some_iff.1 hop).1
  have hself : (listed.setIfInBounds s.j true).getD s.j true = true := by simp [hlt]
  refine ⟨(pairsOk_cons hw.pw).2, fun i => ?_, by simp [hw.sz], fun x hx => hw.io x (by simp [hx]), fun x hx => hw.self x (by simp [hx]), fun x hx => hw.bnd x (by simp [hx]), fun i io hi hli p hp => ?_⟩
  · by_cases e : s.j = i
    · subst e
      rw [hself]
      constructor
      · intro h; cases h
      · rintro ⟨s', hs', hj⟩
        have := (pairsOk_cons hw.pw).1 s' hs'
        simp only [pairOk, Bool.and_eq_true, bne_iff_ne, ne_eq] at this
        exact absurd hj.symm this.1.1.1
    · rw [getD_set_ne true e, hw.cov i]
      constructor
      · rintro ⟨s', hs', hj⟩
        rcases List.mem_cons.1 hs' with h | h
        · subst h; exact absurd hj e
        · exact ⟨s', h, hj⟩
      · rintro ⟨s', hs', hj⟩; exact ⟨s', by simp [hs'], hj⟩
  · by_cases e : s.j = i
    · subst e
      rw [hl] at hi; cases hi
      have hpl : p < listed.size := by rw [hw.sz]; exact hw.bnd s (by simp) p hp
      by_cases e2 : s.j = p
      · subst e2; exact hself
      · rw [getD_set_ne true e2, getD_true_iff]
        intro hun
        obtain ⟨s', hs', hj⟩ := (hw.cov p).1 hun
        rcases List.mem_cons.1 hs' with h | h
        · subst h; exact e2 hj
        · have := (pairsOk_cons hw.pw).1 s' h
          simp only [pairOk, Bool.and_eq_true] at this
          have h2 := this.1.1.2
          rw [hj] at h2
          rw [List.contains_iff_mem.2 hp] at h2
          cases h2
    · rw [getD_set_ne true e] at hli
      have := hw.down i io hi hli p hp
      by_cases e2 : s.j = p
      · subst e2; exact hself
      · rw [getD_set_ne true e2]; exact this

theorem anc_listed (hm : masksOk l ms = true) {listed : Array Bool} (hd : ∀ (i : Nat) (io : IOp), l[i]? = some io → listed.getD i true = true → ∀ p ∈ io.after, listed.getD p true = true) :
    ∀ (y x : Nat), x < l.length → listed.getD y true = true → y < l.length → ((ms[y]?).getD 0).testBit x = true → listed.getD x true = true := by
  intro y
  induction y using Nat.strongRecOn with
  | _ y ih =>
    intro x hx hy hyl hb
    simp only [masksOk, Bool.and_eq_true, List.all_eq_true, List.mem_range] at hm
    have := hm.2 y hyl x hx
    rw [hb] at this
    simp only [Bool.not_true, Bool.false_or] at this
    cases hio : l[y]? with
    | none => simp [hio] at this
    | some io =>
      simp only [hio, Option.map_some, Option.getD_some, List.any_eq_true, Bool.and_eq_true, decide_eq_true_eq, Bool.or_eq_true, beq_iff_eq] at this
      obtain ⟨p, hp, hpy, h⟩ := this
      have hpl := hd y io hio hy p hp
      rcases h with h | h
      · subst h; exact hpl
      · exact ih p hpy x hx hpl (by omega) h

theorem WFs.onlyE (hm : masksOk l ms = true) (hsz : l.length = ops.size) {s : DS} {t : List DS} {listed : Array Bool} (hw : WFs P cand N ops l ms (s :: t) listed) (he : isE s = true) {r : Nat} (hr : r ∈ Region.ready .any ops listed) : r = s.j := by
  obtain ⟨hun, op, hop, hall⟩ := mem_ready.1 hr
  obtain ⟨s', hs', hj⟩ := (hw.cov r).1 hun
  rcases List.mem_cons.1 hs' with h | h
  · subst h; exact hj.symm
  · exfalso
    subst hj
    have hp := (pairsOk_cons hw.pw).1 s' h
    simp only [pairOk, Bool.and_eq_true, Bool.or_eq_true, Bool.not_eq_true'] at hp
    have hb := hp.2.resolve_left (by rw [he]; decide)
    obtain ⟨hl', op', hop', hio'⟩ := hw.io s' (by simp [h])
    obtain ⟨hl0, op0, hop0, _⟩ := hw.io s (by simp)
    have hs0 : s.j < l.length := (List.getElem?_eq_some_iff.1 hl0).1
    have hs1 : s'.j < l.length := (List.getElem?_eq_some_iff.1 hl').1
    -- what it waits for is listed
    have hdir : ∀ p ∈ s'.io.after, listed.getD p true = true := by
      intro p hp'
      rw [hio'.after] at hp'
      obtain ⟨e, he', hon⟩ := List.mem_map.1 hp'
      obtain ⟨h1, h2⟩ := List.mem_filter.1 he'
      rw [hop'] at hop; cases hop
      have := hall e (by simpa using h1) h2
      rw [hon] at this
      rcases Nat.lt_or_ge p listed.size with hlt | hge
      · rw [← getD_tf hlt]; exact this
      · simp [Array.getElem?_eq_none hge]
    have hm' := hm
    simp only [masksOk, Bool.and_eq_true, List.all_eq_true, List.mem_range] at hm'
    have := hm'.2 s'.j hs1 s.j hs0
    rw [hb] at this
    simp only [Bool.not_true, Bool.false_or, hl', Option.map_some, Option.getD_some, List.any_eq_true, Bool.and_eq_true, decide_eq_true_eq, Bool.or_eq_true, beq_iff_eq] at this
    obtain ⟨p, hp', hpy, h'⟩ := this
    have hpl := hdir p hp'
    have hfin : listed.getD s.j true = true := by
      rcases h' with h' | h'
      · rw [← h']; exact hpl
      · exact anc_listed hm hw.down p s.j hs0 hpl (by omega) h'
    rw [(hw.cov s.j).2 ⟨s, by simp, rfl⟩] at hfin
    cases hfin

def QN (R : Act → World → Prop) : Exit → Act → World → Prop
  | .normal, a, w => R a w
  | _, _, _ => False

theorem gd_cases {φ : Phi} {env : Env} {a : Act} {op : Oper} {s : DS} {pins : List Pin} {rest : List Pin → Env → List VB → Prop} {V : List VB} (hio : OpIO P cand N ops op s.io) (hR : EnvR φ N env a)
    (hk : match s.io.guard with
      | none => wdex o s pins rest env V
      | some (g, want) => match env g with
        | .bool b => ifB b
          (fun _ => match want with
            | true => wdex o s pins rest (put env (some g) (.bool true)) V
            | false => wdsk s pins rest (put env (some g) (.bool true)) V)
          (fun _ => match want with
            | false => wdex o s pins rest (put env (some g) (.bool false)) V
            | true => wdsk s pins rest (put env (some g) (.bool false)) V)
        | .raw _ => False
        | _ => wdsk s pins rest env V) :
    (Region.wanted op (yielded ops a.tmps) = true ∧ ∃ env0, EnvR φ N env0 a ∧ wdex o s pins rest env0 V) ∨
    (Region.wanted op (yielded ops a.tmps) = false ∧ ∃ env0, EnvR φ N env0 a ∧ wdsk s pins rest env0 V) := by
  rcases hio.gd with ⟨hg, hg'⟩ | ⟨j, want, d, hg, hd, hdN, hg'⟩
  · rw [hg'] at hk
    exact .inl ⟨by simp [Region.wanted, hg], env, hR, hk⟩
  · rw [hg'] at hk
    simp only at hk
    obtain ⟨y1, y2⟩ := yielded_bool hR hd hdN
    have wt : ∀ {b : Bool}, env d = .bool b → Region.wanted op (yielded ops a.tmps) = (b == want) := by
      intro b hb
      simp only [Region.wanted, hg, y1 b hb]
      cases b <;> cases want <;> rfl
    split at hk
    · rename_i b hb
      have hR0 := hR.lit hb
      rw [wt hb]
      cases b
      · have hk2 := ifB_false hk rfl
        cases want
        · exact .inl ⟨rfl, _, hR0, hk2⟩
        · exact .inr ⟨rfl, _, hR0, hk2⟩
      · have hk2 := ifB_true hk rfl
        cases want
        · exact .inr ⟨rfl, _, hR0, hk2⟩
        · exact .inl ⟨rfl, _, hR0, hk2⟩
    · exact hk.elim
    · rename_i hnb hnr
      refine .inr ⟨?_, env, hR, hk⟩
      simp only [Region.wanted, hg, y2 (fun b hb => hnb b hb) (fun x hx => hnr x hx)]
      cases want <;> rfl

theorem RPins.mono {φ φ' : Phi} {pins : List Pin} {rps : List RP} (h : RPins φ pins rps) (hle : φ.le φ') : RPins φ' pins rps := fun r hr => (h r hr).imp id fun ⟨q, hq, hp⟩ => ⟨q, hq, hp.mono hle⟩

theorem wdr_ok (hm : masksOk l ms = true) (hsz : l.length = ops.size) (hns : Region.noSelect ops = true) {K : Env → List VB → Prop} {R : Act → World → Prop} :
    ∀ (t : List DS) (fuel : Nat) (listed : Array Bool) (pins : List Pin) (rps : List RP) (φ : Phi) (env : Env) (a : Act) (V : List VB) (h : Nat → Frag) (w : World),
      t.length ≤ fuel → WFs P cand N ops l ms t listed → wdr o K pins env V t → EnvR φ N env a → Emb W0 φ V h w → a.defers = [] → RPins φ pins rps → (∀ r ∈ rps, r.S w) →
      (∀ a' w', PostV W0 N φ h w K a' w' → R a' w') → wpAnyP P ops (QN R) fuel listed rps a w
  | [], fuel, listed, pins, rps, φ, env, a, V, h, w, hf, hw, hk, hR, hE, hd, hp, hps, hQ => by
    have hr : Region.ready .any ops listed = [] := by
      apply List.eq_nil_iff_forall_not_mem.2
      intro r hr
      obtain ⟨s, hs, _⟩ := (hw.cov r).1 (mem_ready.1 hr).1
      cases hs
    have hfin : QN R .normal a w := hQ a w ⟨env, V, φ, h, hk, Phi.le_refl _, hR, hE, Fr.refl _ _, hd⟩
    cases fuel with
    | zero => exact ⟨hr, hfin⟩
    | succ fuel => exact ⟨fun _ => hfin, by rw [hr]; simp⟩
  | s :: t, 0, listed, pins, rps, φ, env, a, V, h, w, hf, hw, hk, hR, hE, hd, hp, hps, hQ => by simp at hf
  | s :: t, fuel + 1, listed, pins, rps, φ, env, a, V, h, w, hf, hw, hk, hR, hE, hd, hp, hps, hQ => by
    obtain ⟨hl0, op, hop, hio⟩ := hw.io s (by simp)
    have hrd := hw.ready
    have hnext := hw.next
    have hdst := dstOk hio.dstN
    simp only [wdr, wdst] at hk
    have hg := gd_cases hio hR hk
    have hlen : t.length ≤ fuel := by simp at hf; omega
    -- going on, behind a change of the world
    have go : ∀ {env0 : Env} {pins' : List Pin} {rps' : List RP} {v : VV} {V' : List VB} {φ' : Phi} {h' : Nat → Frag} {w' : World} {x : Value}, EnvR φ N env0 a → wdr o K pins' (put env0 op.dst v) V' t → φ.le φ' → Emb W0 φ' V' h' w' → Fr h h' w w' → den φ' v = some x →
        RPins φ' pins' rps' → (∀ r ∈ rps', r.S w') → wpAnyP P ops (QN R) fuel (listed.setIfInBounds s.j true) rps' (a.put op.dst x) w' := by
      intro env0 pins' rps' v V' φ' h' w' x hR0 hk' hle hE' hF hx hp' hps'
      refine wdr_ok hm hsz hns t fuel _ pins' rps' φ' _ _ V' h' w' hlen hnext hk' ((hR0.mono hle).put hx hdst) hE' (by rw [put_defers']; exact hd) hp' hps' ?_
      rintro a' w'' hpost
      exact hQ a' w'' (hpost.trans hle hF)
    cases hkind : s.k with
    | q =>
      have hfree : ∀ j oj, ops[j]? = some oj → j ≠ s.j → listed.getD j true = false → (∀ e ∈ oj.after, Region.binds .any e = true → e.on ≠ s.j) → op.apart ops oj = true := by
        intro j oj hoj hne hun hno
        obtain ⟨s', hs', hj⟩ := (hw.cov j).1 hun
        rcases List.mem_cons.1 hs' with h' | h'
        · subst h'; exact absurd hj.symm hne
        · subst hj
          have hpr := (pairsOk_cons hw.pw).1 s' h'
          simp only [pairOk, Bool.and_eq_true, Bool.or_eq_true] at hpr
          obtain ⟨_, op', hop', hio'⟩ := hw.io s' (by simp [h'])
          rw [hoj] at hop'; cases hop'
          rcases hpr.1.2 with h2 | h2
          · exfalso
            rw [List.contains_iff_mem, hio'.after] at h2
            obtain ⟨e, he', hon⟩ := List.mem_map.1 h2
            obtain ⟨h3, h4⟩ := List.mem_filter.1 he'
            exact hno e (by simpa using h3) h4 hon
          · rw [hop, hoj] at h2
            simpa using h2
      have take : ∀ {env0 : Env} {v : VV} {x : Value} {pins' : List Pin} (S : World → Prop), EnvR φ N env0 a → YieldsIf P ops S op x a → S w → den φ v = some x → wdr o K pins' (put env0 op.dst v) V t → RPins φ pins' (⟨S, s.j⟩ :: rps) →
          wpAnyP P ops (QN R) (fuel + 1) listed rps a w := by
        intro env0 v x pins' S hR0 hy hS hx hk' hp'
        refine wpAnyP_first hop (Region.noSelect_spec hns) (fun _ _ _ h => h) fuel listed rps a w hfree hrd hy hS hps ?_
        refine go hR0 hk' (Phi.le_refl _) hE (Fr.refl _ _) hx hp' ?_
        intro r hr
        rcases List.mem_cons.1 hr with h' | h'
        · subst h'; exact hS
        · exact hps r h'
      have ptriv : ∀ {pins' : List Pin}, (∀ q ∈ pins, q ∈ pins') → RPins φ pins' (⟨fun _ => True, s.j⟩ :: rps) := by
        intro pins' hsub r hr
        rcases List.mem_cons.1 hr with h' | h'
        · subst h'; exact .inl fun _ => trivial
        · exact (hp r h').imp id fun ⟨q, hq, hpq⟩ => ⟨q, hsub q hq, hpq⟩
      rcases hg with ⟨hwant, env0, hR0, hk'⟩ | ⟨hwant, env0, hR0, hk'⟩
      · simp only [wdex, hkind] at hk'
        have pure : ∀ (v : VV) (c : Option Bool), pval o s.io.op env0 = some (v, c) → (c = none ∨ c = some true) → wdr o K pins (put env0 s.io.dst v) V t → wpAnyP P ops (QN R) (fuel + 1) listed rps a w := by
          intro v c hv hb hk2
          obtain ⟨x, hx, hrun⟩ := pval_ok hio.cmp (fun x _ => hR0.rd x) hv hb
          rw [hio.dst] at hk2
          exact take (fun _ => True) hR0 (.inl ⟨hwant, fun w' _ => hrun w'⟩) trivial hx hk2 (ptriv fun q hq => hq)
        split at hk'
        · rename_i v hv; exact pure v none hv (.inl rfl) hk'
        · rename_i v b hv; exact pure v (some b) hv (.inr (by rw [hk'.1])) hk'.2
        · split at hk'
          · rename_i v hv
            split at hk'
            · rename_i pin hpin
              obtain ⟨n, agg, r, hop', hld⟩ := lval_ldAt hv
              rw [hop'] at hpin
              simp only [mkPin] at hpin
              cases hpin
              rw [hio.dst] at hk'
              obtain ⟨b', off', lv', rs', g1, g2, g3, g4, g5⟩ := ldAt_holds hld hE
              obtain ⟨x, hx, hrun⟩ := ld_run (hop' ▸ hio.cmp) (fun x _ => hR0.rd x) g1 g2 g3 g5
              refine take (fun w' => holdsAt w' b' off' rs') hR0 (.inl ⟨hwant, fun w' hw' => hrun w' hw'⟩) g4 hx hk' ?_
              intro r' hr'
              rcases List.mem_cons.1 hr' with h' | h'
              · subst h'
                exact .inr ⟨_, List.mem_cons_self, b', off', lv', rs', g1, g2, g3, rfl, fun w' hw' => hw'⟩
              · exact (hp r' h').imp id fun ⟨q, hq, hpq⟩ => ⟨q, List.mem_cons_of_mem _ hq, hpq⟩
            · exact hk'.elim
          · exact hk'.elim
      · simp only [wdsk, hkind] at hk'
        rw [hio.dst] at hk'
        exact take (fun _ => True) hR0 (.inr ⟨hwant, rfl⟩) trivial rfl hk' (ptriv fun q hq => hq)
    | e =>
      refine ⟨fun h0 => (by rw [h0] at hrd; cases hrd), fun r hr => ?_⟩
      have hrs := hw.onlyE hm hsz (by simp [isE, hkind]) hr
      subst hrs
      have hkeep : ∀ {φ' : Phi} {V' : List VB} {h' : Nat → Frag} {w' : World}, φ.le φ' → Emb W0 φ' V' h' w' → pinsOk o (keepPins s.io.after pins) V' →
          (∀ p ∈ rps, waits ops s.j p.j = false → p.S w') ∧ RPins φ' (keepPins s.io.after pins) (rps.filter fun p => !waits ops s.j p.j) := by
        intro φ' V' h' w' hle hE' hpo
        constructor
        · intro p hp' hwt
          rcases hp p hp' with h1 | ⟨q, hq, hpq⟩
          · exact h1 w'
          · have hj : p.j = q.j := by obtain ⟨_, _, _, _, _, _, _, h5, _⟩ := hpq; exact h5
            rw [waits_eq hop hio, hj] at hwt
            exact (hpq.mono hle).holds (pinsOk_mem hpo q (mem_keepPins.2 ⟨hq, hwt⟩)) hE'
        · intro p hp'
          obtain ⟨m1, m2⟩ := List.mem_filter.1 hp'
          rcases hp p m1 with h1 | ⟨q, hq, hpq⟩
          · exact .inl h1
          · have hj : p.j = q.j := by obtain ⟨_, _, _, _, _, _, _, h5, _⟩ := hpq; exact h5
            rw [waits_eq hop hio, hj] at m2
            exact .inr ⟨q, mem_keepPins.2 ⟨hq, by simpa using m2⟩, hpq.mono hle⟩
      unfold wpOp
      simp only [hop]
      rcases hg with ⟨hwant, env0, hR0, hk'⟩ | ⟨hwant, env0, hR0, hk'⟩
      · rw [if_pos hwant]
        refine .inl ?_
        simp only [wdex, hkind] at hk'
        refine (wop_does hio.cmp (fun x _ => hR0.rd x) hE hk').wp ?_
        rintro v V' φ' h' w' x ⟨k1, k2⟩ hle hE' hF hx
        obtain ⟨g1, g2⟩ := hkeep hle hE' k1
        rw [hio.dst] at k2
        refine ⟨g1, go hR0 k2 hle hE' hF hx g2 ?_⟩
        intro r hr'
        obtain ⟨m1, m2⟩ := List.mem_filter.1 hr'
        exact g1 r m1 (by simpa using m2)
      · rw [if_neg (by rw [hwant]; decide)]
        simp only [wdsk, hkind] at hk'
        rw [hio.dst] at hk'
        refine ⟨fun p hp' _ => hps p hp', go hR0 hk' (Phi.le_refl _) hE (Fr.refl _ _) rfl ?_ fun r hr' => hps r (List.mem_filter.1 hr').1⟩
        intro p hp'
        obtain ⟨m1, m2⟩ := List.mem_filter.1 hp'
        rcases hp p m1 with h1 | ⟨q, hq, hpq⟩
        · exact .inl h1
        · have hj : p.j = q.j := by obtain ⟨_, _, _, _, _, _, _, h5, _⟩ := hpq; exact h5
          rw [waits_eq hop hio, hj] at m2
          exact .inr ⟨q, mem_keepPins.2 ⟨hq, by simpa using m2⟩, hpq⟩

theorem draws_ok (hmix : P.follows .mixedOrders = true) : DrawsOk P W0 o cand N := by
  intro id ops l K φ env a V h w Q hc hs hk hR hE hd hQ
  obtain ⟨hlen, hget⟩ := compOps_get hc
  simp only [schedOk, Bool.and_eq_true, decide_eq_true_eq, beq_iff_eq, List.all_eq_true, List.mem_range, List.any_eq_true, Bool.not_eq_true'] at hs
  obtain ⟨⟨⟨⟨⟨⟨⟨⟨h1, h2⟩, h3⟩, h4⟩, h5⟩, h6⟩, h7⟩, h8⟩, h9⟩ := hs
  have hsz : l.length = ops.size := by rw [hlen]; simp
  have hmem : ∀ s ∈ sched (masks l []) (l.length + 1) (number l 0), l[s.j]? = some s.io := fun s hs' => by
    have := (mem_number (mem_sched hs')).2
    simpa using this
  have hwf : WFs P cand N ops l (masks l []) (sched (masks l []) (l.length + 1) (number l 0)) (Array.replicate ops.size false) := by
    refine ⟨h2, fun i => ?_, by simp, fun s hs' => ⟨hmem s hs', ?_⟩, fun s hs' => h8 s hs', fun s hs' p hp => ?_, fun i io hi hli p hp => ?_⟩
    · constructor
      · intro hi
        have hlt : i < ops.size := by
          rcases Nat.lt_or_ge i ops.size with h | h
          · exact h
          · simp [Array.getElem?_eq_none (show (Array.replicate ops.size false).size ≤ i by simpa using h)] at hi
        obtain ⟨s, hs', hj⟩ := h5 i (by omega)
        exact ⟨s, hs', hj⟩
      · rintro ⟨s, hs', rfl⟩
        have : s.j < ops.size := by rw [← hsz]; exact h4 s hs'
        simp [this]
    · have hj : s.j < l.length := h4 s hs'
      have hj2 : s.j < ops.toList.length := by rw [← hlen]; exact hj
      obtain ⟨io, g1, g2⟩ := hget s.j ops.toList[s.j] (List.getElem?_eq_getElem hj2)
      rw [hmem s hs'] at g1
      cases g1
      exact ⟨_, by rw [← Array.getElem?_toList]; exact List.getElem?_eq_getElem hj2, g2⟩
    · rw [← hsz]
      exact h7 s.io (List.mem_of_getElem? (hmem s hs')) p hp
    · have hlt : i < ops.size := by rw [← hsz]; exact (List.getElem?_eq_some_iff.1 hi).1
      simp [hlt] at hli
  refine wp_mono (wp_region_any hmix (wpAny_of_P _ _ _ _ _ (wdr_ok (R := PostV W0 N φ h w K) h1 hsz h6 (sched (masks l []) (l.length + 1) (number l 0)) ops.size _ [] [] φ env a V h _ (by rw [h3, hsz]; exact Nat.le_refl _) hwf hk hR (hE.heap rfl) hd (fun r hr => by cases hr) (fun r hr => by cases hr) ?_))) ?_
  · rintro a' w' ⟨env', V', φ', h', g1, g2, g3, g4, g5, g6⟩
    exact ⟨env', V', φ', h', g1, g2, g3, g4, g5.heapl rfl ⟨rfl, rfl, rfl⟩, g6⟩
  · intro e a' w' hq
    cases e <;> first | exact hQ a' w' hq | exact hq.elim
end
end
end Go.SL
