/- A symbolic executor over the model: many closed heaps as one entry; one of them is taken out, or put in; values told by what they are in the world. -/
import Derived.Test.YthoodnlihbaimaaSLx
set_option linter.unusedVariables false
set_option linter.unusedSimpArgs false
namespace Go.SL

/-- Something with a heap of its own: what its cells are in the world, what they are among its own numbers. -/
structure Item where
  l : List Value
  row : List VV
  U : List VB
structure OwnAt (W0 : World) (it : Item) (φ : Phi) (h : Nat → Frag) (f : Frag) : Prop where
  sub : ∀ (i x : Nat) (o : Obj), h i x = some o → f x = some o
  disj : ∀ (i j x : Nat), i ≠ j → h i x = none ∨ h j x = none
  dom : ∀ i, it.U.length ≤ i → φ i = none
  sat : ∀ (i : Nat) (vb : VB), it.U[i]? = some vb → vb.ok W0 φ (h i) i
  row : denL φ it.row = some it.l
def Own (W0 : World) (it : Item) (f : Frag) : Prop := ∃ φ h, OwnAt W0 it φ h f
def Rest (W0 : World) (I : Nat → Option Item) (f : Frag) (_ : Nat) : Prop :=
  ∃ fs : Nat → Frag, (∀ (j x : Nat) (o : Obj), fs j x = some o → f x = some o) ∧ (∀ (i j x : Nat), i ≠ j → fs i x = none ∨ fs j x = none) ∧ ∀ (j : Nat) (it : Item), I j = some it → Own W0 it (fs j)
/-- Many closed heaps, as one entry. -/
def rest (W0 : World) (I : Nat → Option Item) : VB := .abs (Rest W0 I)
theorem rnB_rest (W0 : World) (I : Nat → Option Item) (ρ : Nat → Nat) : rnB ρ (rest W0 I) = rest W0 I := rfl
def upI {α : Type} (I : Nat → Option α) (j : Nat) (x : Option α) : Nat → Option α := fun i => if i = j then x else I i
theorem upI_self {α : Type} (I : Nat → Option α) (j : Nat) (x : Option α) : upI I j x j = x := by simp [upI]
theorem upI_ne {α : Type} (I : Nat → Option α) {j i : Nat} (x : Option α) (h : i ≠ j) : upI I j x i = I i := by simp [upI, h]
theorem upI_upI {α : Type} (I : Nat → Option α) (j : Nat) (x y : Option α) : upI (upI I j x) j y = upI I j y := by
  funext i; simp only [upI]; split <;> rfl
theorem Rest.mono {W0 : World} {I J : Nat → Option Item} {f : Frag} {b : Nat} (h : ∀ j it, J j = some it → I j = some it) (hr : Rest W0 I f b) : Rest W0 J f b := by
  obtain ⟨fs, h1, h2, h3⟩ := hr
  exact ⟨fs, h1, h2, fun j it hj => h3 j it (h j it hj)⟩
/-- The numbers of a heap laid behind others. -/
def sh (m : Nat) : Nat → Nat := fun i => m + i

section
variable {P : Program} {W0 : World} {φ : Phi} {V : List VB} {h : Nat → Frag} {w : World}

/-- An entry is another one, too. -/
theorem Emb.weak {a : Nat} {C C' : VB} (hE : Emb W0 φ V h w) (ha : lget V a = some C) (hC : C.ok W0 φ (h a) a → C'.ok W0 φ (h a) a) : Emb W0 φ (lset V a C') h w := by
  rw [lset_eq]
  rw [lget_eq] at ha
  refine ⟨hE.size, hE.old, hE.sub, hE.disj, fun i hi => hE.dom i (by simpa using hi), fun i vb hi => ?_⟩
  by_cases e : i = a
  · subst e
    rw [List.getElem?_set_self ((List.getElem?_eq_some_iff.1 ha).1)] at hi
    cases hi
    exact hC (hE.sat i C ha)
  · rw [List.getElem?_set_ne (Ne.symm e)] at hi
    exact hE.sat i vb hi
theorem Ev.weak {f : FuncId} {args : List VV} {Q : VV → List VB → Prop} (a : Nat) {C : VB} (C' : VB) (ha : lget V a = some C) (hC : ∀ (φ : Phi) (f : Frag), C.ok W0 φ f a → C'.ok W0 φ f a) (he : Ev P W0 f args (lset V a C') Q) : Ev P W0 f args V Q :=
  ⟨he.1, fun φ h w hE rargs hr => he.2 φ h w (hE.weak ha (hC φ _)) rargs hr⟩
theorem ReV.weak {n0 : Nat} {Q : VV → List VB → Prop} {v : VV} (a : Nat) {C : VB} (C' : VB) (ha : lget V a = some C) (hC : ∀ (φ : Phi) (f : Frag), C.ok W0 φ f a → C'.ok W0 φ f a) (hr : ReV W0 n0 Q v (lset V a C')) : ReV W0 n0 Q v V :=
  fun φ h w x hE hx => hr φ h w x (hE.weak ha (hC φ _)) hx
theorem Re.weak {N n0 : Nat} {K : Env → List VB → Prop} {env : Env} (a : Nat) {C : VB} (C' : VB) (ha : lget V a = some C) (hC : ∀ (φ : Phi) (f : Frag), C.ok W0 φ f a → C'.ok W0 φ f a) (hr : Re W0 N n0 K env (lset V a C')) : Re W0 N n0 K env V :=
  fun φ h w a hE hR => hr φ h w a (hE.weak ha (hC φ _)) hR

/-- One of many is taken out. -/
theorem Emb.take {k j : Nat} {I : Nat → Option Item} {it : Item} (hE : Emb W0 φ V h w) (hk : lget V k = some (rest W0 I)) (hj : I j = some it) :
    ∃ φ' h', φ.le φ' ∧ Emb W0 φ' (lapp (lset V k (rest W0 (upI I j none))) (it.U.map (rnB (sh V.length)))) h' w ∧ Fr h h' w w ∧ denL φ' (rnL (sh V.length) it.row) = some it.l ∧ (∀ i, i < V.length → φ' i = φ i) := by
  rw [lget_eq] at hk
  rw [lset_eq, lapp_eq]
  obtain ⟨b, hφk, fs, f1, f2, f3⟩ := hE.sat k _ hk
  obtain ⟨φ0, h0, B⟩ := f3 j it hj
  have hkl : k < V.length := (List.getElem?_eq_some_iff.1 hk).1
  generalize hm : V.length = m at *
  let φ' : Phi := fun i => if i < m then φ i else φ0 (i - m)
  let h' : Nat → Frag := fun i => if i = k then (fun x => match fs j x with | some _ => none | none => h k x) else if i < m then h i else h0 (i - m)
  have hcomp : ∀ i, φ0 i = φ' (sh m i) := fun i => by simp only [φ', sh, if_neg (show ¬ m + i < m by omega)]; congr 1; omega
  have hle : φ.le φ' := by
    intro i y hy
    have him : i < m := by
      rcases Nat.lt_or_ge i m with h | h
      · exact h
      · rw [hE.dom i (by omega)] at hy; cases hy
    simp only [φ', if_pos him]; exact hy
  have cls : ∀ i x o, h' i x = some o → (i = k ∧ h k x = some o ∧ fs j x = none) ∨ (i ≠ k ∧ i < m ∧ h i x = some o) ∨ (m ≤ i ∧ h0 (i - m) x = some o) := by
    intro i x o hx
    by_cases e : i = k
    · left
      simp only [h', if_pos e] at hx
      split at hx
      · cases hx
      · rename_i hn; exact ⟨e, hx, hn⟩
    · simp only [h', if_neg e] at hx
      split at hx
      · rename_i hi; exact .inr (.inl ⟨e, hi, hx⟩)
      · exact .inr (.inr ⟨by omega, hx⟩)
  have inK : ∀ i x o, h0 i x = some o → h k x = some o ∧ fs j x = some o := fun i x o hx => ⟨f1 j x o (B.sub i x o hx), B.sub i x o hx⟩
  refine ⟨φ', h', hle, ⟨hE.size, hE.old, ?_, ?_, ?_, ?_⟩, ⟨Nat.le_refl _, fun _ _ _ => rfl, ?_, Sm.refl w⟩, ?_, fun i hi => by simp only [φ', if_pos hi]⟩
  · intro i x o hx
    rcases cls i x o hx with ⟨_, g, _⟩ | ⟨_, _, g⟩ | ⟨_, g⟩
    · exact hE.sub k x o g
    · exact hE.sub i x o g
    · exact hE.sub k x o (inK _ _ _ g).1
  · intro i i' x hi
    cases hb : h' i x with
    | none => exact .inl rfl
    | some o =>
      right
      cases hc : h' i' x with
      | none => rfl
      | some o2 =>
        have go : ∀ (p q : Nat) (u v : Option Obj), p ≠ q → h p x = u → h q x = v → u.isSome = true → v.isSome = true → False := by
          intro p q u v hpq h1 h2 h3 h4
          rcases hE.disj p q x hpq with e | e
          · rw [e] at h1; subst h1; cases h3
          · rw [e] at h2; subst h2; cases h4
        rcases cls i x o hb with ⟨a1, a2, a3⟩ | ⟨a1, a2, a3⟩ | ⟨a1, a2⟩ <;> rcases cls i' x o2 hc with ⟨c1, c2, c3⟩ | ⟨c1, c2, c3⟩ | ⟨c1, c2⟩
        · exact absurd (a1.trans c1.symm) hi
        · exact (go _ _ _ _ (Ne.symm c1) a2 c3 rfl rfl).elim
        · rw [(inK _ _ _ c2).2] at a3; cases a3
        · exact (go _ _ _ _ a1 a3 c2 rfl rfl).elim
        · exact (go _ _ _ _ hi a3 c3 rfl rfl).elim
        · exact (go _ _ _ _ a1 a3 (inK _ _ _ c2).1 rfl rfl).elim
        · rw [(inK _ _ _ a2).2] at c3; cases c3
        · exact (go _ _ _ _ (Ne.symm c1) (inK _ _ _ a2).1 c3 rfl rfl).elim
        · rcases B.disj (i - m) (i' - m) x (by omega) with e | e
          · rw [e] at a2; cases a2
          · rw [e] at c2; cases c2
  · intro i hi
    simp only [List.length_append, List.length_set, List.length_map, hm] at hi
    simp only [φ', if_neg (show ¬ i < m by omega)]
    exact B.dom _ (by omega)
  · intro i vb hi
    by_cases him : i < m
    · rw [List.getElem?_append_left (by simpa [hm] using him)] at hi
      by_cases e : i = k
      · subst e
        rw [List.getElem?_set_self (by omega)] at hi
        cases hi
        refine ⟨b, by simp only [φ', if_pos him]; exact hφk, fun i' => if i' = j then fun _ => none else fs i', ?_, ?_, ?_⟩
        · intro p x o hp
          dsimp only at hp
          split at hp
          · cases hp
          · rename_i hpj
            have hn : fs j x = none := by
              rcases f2 p j x hpj with e | e
              · rw [e] at hp; cases hp
              · exact e
            simp only [h', if_pos, hn]
            exact f1 p x o hp
        · intro p q x hpq
          by_cases e1 : p = j
          · left; simp [e1]
          · by_cases e2 : q = j
            · right; simp [e2]
            · simp only [if_neg e1, if_neg e2]; exact f2 p q x hpq
        · intro p it' hp
          by_cases e1 : p = j
          · subst e1; rw [upI_self] at hp; cases hp
          · rw [upI_ne _ _ e1] at hp
            simp only [if_neg e1]; exact f3 p it' hp
      · rw [List.getElem?_set_ne (Ne.symm e)] at hi
        have e1 : h' i = h i := by simp only [h', if_neg e, if_pos him]
        rw [e1]
        exact VB.ok_mono hle (hE.sat i vb hi) (by intro hn; simp only [φ', if_pos him]; exact hn)
    · rw [List.getElem?_append_right (by simp [hm]; omega), List.getElem?_map, List.length_set, hm] at hi
      simp only [Option.map_eq_some_iff] at hi
      obtain ⟨u, hu, rfl⟩ := hi
      have e1 : h' i = h0 (i - m) := by simp only [h', if_neg (show ¬ i = k by omega), if_neg him]
      rw [e1]
      exact (rnB_ok hcomp (by simp only [sh]; omega)).2 (B.sat _ u hu)
  · intro i x o hx
    rcases cls i x o hx with ⟨_, g, _⟩ | ⟨_, _, g⟩ | ⟨_, g⟩
    · exact .inl ⟨k, o, g⟩
    · exact .inl ⟨i, o, g⟩
    · exact .inl ⟨k, o, (inK _ _ _ g).1⟩
  · rw [denL_rn, ← funext hcomp]; exact B.row
/-- One of many is taken out; its place among others tells it. -/
theorem Ev.take {f : FuncId} {args : List VV} {Q : VV → List VB → Prop} (k a j : Nat) {I : Nat → Option Item} {it : Item} {C : VB} (C' : VB) (hk : lget V k = some (rest W0 I)) (hj : I j = some it) (ha : lget V a = some C) (hak : Nat.beq a k = false)
    (hC : ∀ (φ : Phi) (f : Frag), denL φ (rnL (sh V.length) it.row) = some it.l → C.ok W0 φ f a → C'.ok W0 φ f a)
    (he : Ev P W0 f args (lset (lapp (lset V k (rest W0 (upI I j none))) (it.U.map (rnB (sh V.length)))) a C') Q) : Ev P W0 f args V Q := by
  refine ⟨he.1, fun φ h w hE rargs hr => ?_⟩
  obtain ⟨φ', h', hle, hE', hF, hd, _⟩ := hE.take hk hj
  have hal : a < V.length := by rw [lget_eq] at ha; exact (List.getElem?_eq_some_iff.1 ha).1
  have hne : k ≠ a := by rintro rfl; rw [Nat.beq_refl] at hak; cases hak
  have hE2 := hE'.weak (a := a) (C := C) (C' := C') (by
    rw [lget_eq, lapp_eq, lset_eq, List.getElem?_append_left (by simpa using hal), List.getElem?_set_ne hne, ← lget_eq, ha]) (hC _ _ hd)
  refine (he.2 φ' h' w hE2 rargs (denL_mono hle _ _ hr)).mono ?_
  rintro e w' ⟨v, x, V', φ2, h2, rfl, h3, h4, h5, h6, h7⟩
  exact ⟨v, x, V', φ2, h2, rfl, h3, h4, Phi.le_trans hle h5, h6, hF.trans h7⟩

/-- One is put among many. -/
theorem Emb.put {k j : Nat} {qs : List Nat} {I : Nat → Option Item} {row : List VV} {l : List Value} {U : List VB} (hE : Emb W0 φ V h w) (hk : lget V k = some (rest W0 I)) (hd : nodupB (k :: qs) = true) (hf : fitB (rho qs V.length) V qs U)
    (hr : denL φ (rnL (rho qs V.length) row) = some l) :
    ∃ h', Emb W0 φ (emps (lset V k (rest W0 (upI I j (some ⟨l, row, U⟩)))) qs) h' w ∧ Fr h h' w w ∧ (∀ i, i ≠ k → ¬ i ∈ qs → h' i = h i) := by
  rw [lget_eq] at hk
  obtain ⟨b, hφk, fs, f1, f2, f3⟩ := hE.sat k _ hk
  have hkl : k < V.length := (List.getElem?_eq_some_iff.1 hk).1
  have hkq : ¬ k ∈ qs := by
    intro hm
    simp only [nodupB, hasNat_iff.2 hm] at hd
    cases hd
  have hdq : nodupB qs = true := by
    simp only [nodupB] at hd
    split at hd
    · cases hd
    · exact hd
  have hP := hE.part (Nat.le_refl _) hf hdq
  obtain ⟨hl, hg⟩ := fitB_get hf
  have hOw : Own W0 ⟨l, row, U⟩ (unionF h qs) := by
    refine ⟨phiPart φ qs V.length, hpart U h qs V.length, ?_, hP.disj, hP.dom, hP.sat, ?_⟩
    · intro i x o hx
      obtain ⟨g1, g2⟩ := hpart_own hx
      have := rho_lt (ps := qs) (m := V.length) (i := i) (by omega)
      exact unionF_of (fun i j => hE.disj i j x) g2 (List.mem_of_getElem? this)
    · show denL (fun i => φ (rho qs V.length i)) row = some l
      rw [← denL_rn]; exact hr
  let h' : Nat → Frag := fun i => if i = k then (fun x => match unionF h qs x with | some o => some o | none => h k x) else if i ∈ qs then fun _ => none else h i
  have cls : ∀ i x o, h' i x = some o → (i = k ∧ ((∃ p ∈ qs, h p x = some o) ∨ h k x = some o)) ∨ (i ≠ k ∧ ¬ i ∈ qs ∧ h i x = some o) := by
    intro i x o hx
    simp only [h'] at hx
    split at hx
    · rename_i e
      left
      refine ⟨e, ?_⟩
      dsimp only at hx
      split at hx
      · rename_i o' ho; cases hx; exact .inl (unionF_own ho)
      · exact .inr hx
    · rename_i e
      split at hx
      · cases hx
      · rename_i e2; exact .inr ⟨e, e2, hx⟩
  have apart : ∀ p x o o', p ∈ qs → h p x = some o → h k x = some o' → False := by
    intro p x o o' hp h1 h2
    have : p ≠ k := by rintro rfl; exact hkq hp
    rcases hE.disj p k x this with e | e
    · rw [e] at h1; cases h1
    · rw [e] at h2; cases h2
  refine ⟨h', ⟨hE.size, hE.old, ?_, ?_, ?_, ?_⟩, ⟨Nat.le_refl _, fun _ _ _ => rfl, ?_, Sm.refl w⟩, fun i h1 h2 => by simp only [h', if_neg h1, if_neg h2]⟩
  · intro i x o hx
    rcases cls i x o hx with ⟨_, ⟨p, _, hp⟩ | hp⟩ | ⟨_, _, hp⟩
    · exact hE.sub p x o hp
    · exact hE.sub k x o hp
    · exact hE.sub i x o hp
  · intro i i' x hij
    cases hi : h' i x with
    | none => exact .inl rfl
    | some o =>
      right
      cases hj : h' i' x with
      | none => rfl
      | some o2 =>
        have go : ∀ (p q : Nat), p ≠ q → h p x = some o → h q x = some o2 → False := by
          intro p q hpq h1 h2
          rcases hE.disj p q x hpq with e | e
          · rw [e] at h1; cases h1
          · rw [e] at h2; cases h2
        rcases cls i x o hi with ⟨e1, hp⟩ | ⟨e1, e2, hpx⟩
        · rcases cls i' x o2 hj with ⟨q1, _⟩ | ⟨q1, q2, q3⟩
          · exact absurd (e1.trans q1.symm) hij
          · rcases hp with ⟨p, hp, hpx⟩ | hpx
            · exact (go p i' (by rintro rfl; exact q2 hp) hpx q3).elim
            · exact (go k i' (Ne.symm q1) hpx q3).elim
        · rcases cls i' x o2 hj with ⟨q1, hp⟩ | ⟨q1, q2, q3⟩
          · rcases hp with ⟨p, hp, q3⟩ | q3
            · exact (go i p (by rintro rfl; exact e2 hp) hpx q3).elim
            · exact (go i k e1 hpx q3).elim
          · exact (go i i' hij hpx q3).elim
  · intro i hi
    rw [emps_len, lset_eq, List.length_set] at hi
    exact hE.dom i hi
  · intro i vb hj
    rw [emps_get, lset_eq, List.length_set] at hj
    split at hj
    · cases hj; trivial
    · rename_i hn
      by_cases hjk : i = k
      · subst hjk
        rw [List.getElem?_set_self hkl] at hj
        cases hj
        refine ⟨b, hφk, fun p => if p = j then unionF h qs else fs p, ?_, ?_, ?_⟩
        · intro p x o hp
          simp only [h', if_pos]
          by_cases e : p = j
          · simp only [if_pos e] at hp; rw [hp]
          · simp only [if_neg e] at hp
            cases hu : unionF h qs x with
            | some o' =>
              obtain ⟨p', hp', hx'⟩ := unionF_own hu
              exact (apart p' x _ _ hp' hx' (f1 p x o hp)).elim
            | none => exact f1 p x o hp
        · intro p q x hpq
          have ap : ∀ p', (fs p' x).isSome = true → unionF h qs x = none := by
            intro p' hs
            cases hu : unionF h qs x with
            | none => rfl
            | some o' =>
              obtain ⟨p2, hp2, hx2⟩ := unionF_own hu
              cases hf : fs p' x with
              | none => rw [hf] at hs; cases hs
              | some o2 => exact (apart p2 x _ _ hp2 hx2 (f1 p' x o2 hf)).elim
          by_cases e1 : p = j
          · simp only [if_pos e1, if_neg (show ¬ q = j by rintro rfl; exact hpq e1)]
            cases hf : fs q x with
            | none => exact .inr rfl
            | some o2 => exact .inl (ap q (by rw [hf]; rfl))
          · by_cases e2 : q = j
            · simp only [if_neg e1, if_pos e2]
              cases hf : fs p x with
              | none => exact .inl rfl
              | some o2 => exact .inr (ap p (by rw [hf]; rfl))
            · simp only [if_neg e1, if_neg e2]; exact f2 p q x hpq
        · intro p it hp
          by_cases e1 : p = j
          · subst e1; rw [upI_self] at hp; cases hp
            simp only [if_pos]; exact hOw
          · rw [upI_ne _ _ e1] at hp
            simp only [if_neg e1]; exact f3 p it hp
      · rw [List.getElem?_set_ne (Ne.symm hjk)] at hj
        have hjl : i < V.length := (List.getElem?_eq_some_iff.1 hj).1
        have hjq : ¬ i ∈ qs := fun hm => hn ⟨hm, hjl⟩
        simp only [h', if_neg hjk, if_neg hjq]
        exact hE.sat i vb hj
  · intro i x o hx
    rcases cls i x o hx with ⟨_, ⟨p, _, hp⟩ | hp⟩ | ⟨_, _, hp⟩
    · exact .inl ⟨p, o, hp⟩
    · exact .inl ⟨k, o, hp⟩
    · exact .inl ⟨i, o, hp⟩
/-- One is put among many; its place among others then tells it as it is in the world. -/
theorem Emb.put2 {k a j : Nat} {qs : List Nat} {I : Nat → Option Item} {row : List VV} {U : List VB} {C : VB} {C' : List Value → VB} (hE : Emb W0 φ V h w) (hk : lget V k = some (rest W0 I)) (ha : lget V a = some C) (hd : nodupB (k :: a :: qs) = true) (hf : fitB (rho qs V.length) V qs U)
    (hC : ∀ (φ : Phi) (f : Frag), C.ok W0 φ f a → ∃ l, denL φ (rnL (rho qs V.length) row) = some l ∧ (C' l).ok W0 φ f a) :
    ∃ l h', l.length = row.length ∧ Emb W0 φ (lset (emps (lset V k (rest W0 (upI I j (some ⟨l, row, U⟩)))) qs) a (C' l)) h' w ∧ Fr h h' w w := by
  have n1 : ¬ k ∈ a :: qs := by
    intro hm
    simp only [nodupB, hasNat_iff.2 hm] at hd
    cases hd
  have hd1 : nodupB (a :: qs) = true := by
    simp only [nodupB] at hd ⊢
    split at hd
    · cases hd
    · exact hd
  have n2 : ¬ a ∈ qs := by
    intro hm
    simp only [nodupB, hasNat_iff.2 hm] at hd1
    cases hd1
  have hdq : nodupB qs = true := by
    simp only [nodupB] at hd1
    split at hd1
    · cases hd1
    · exact hd1
  have nk : ¬ k ∈ qs := fun h => n1 (List.mem_cons_of_mem _ h)
  have hak : a ≠ k := by rintro rfl; exact n1 (by simp)
  have hkd : nodupB (k :: qs) = true := by
    have : hasNat qs k = false := by
      cases h : hasNat qs k with
      | false => rfl
      | true => exact absurd (hasNat_iff.1 h) nk
    simp only [nodupB, this]; exact hdq
  have ha' := ha
  rw [lget_eq] at ha
  obtain ⟨l, hl, _⟩ := hC φ (h a) (hE.sat a C ha)
  obtain ⟨h', hE', hF, hh⟩ := hE.put (j := j) hk hkd hf hl
  refine ⟨l, h', by rw [denL_length hl, rnL_length], ?_, hF⟩
  refine hE'.weak (C := C) ?_ ?_
  · rw [lget_eq, emps_get, if_neg (fun e => n2 e.1), lset_eq, List.getElem?_set_ne (Ne.symm hak), ha]
  · intro hc
    obtain ⟨l', h1, h2⟩ := hC φ _ hc
    rw [h1] at hl
    cases hl
    exact h2
theorem ReV.put {n0 : Nat} {Q : VV → List VB → Prop} {v : VV} (k a j : Nat) (qs : List Nat) {I : Nat → Option Item} (row : List VV) (U : List VB) {C : VB} (C' : List Value → VB) (hk : lget V k = some (rest W0 I)) (ha : lget V a = some C) (hd : nodupB (k :: a :: qs) = true) (hf : fitB (rho qs V.length) V qs U)
    (hC : ∀ (φ : Phi) (f : Frag), C.ok W0 φ f a → ∃ l, denL φ (rnL (rho qs V.length) row) = some l ∧ (C' l).ok W0 φ f a)
    (hr : ∀ l : List Value, l.length = row.length → ReV W0 n0 Q v (lset (emps (lset V k (rest W0 (upI I j (some ⟨l, row, U⟩)))) qs) a (C' l))) : ReV W0 n0 Q v V := by
  intro φ hh w x hE hx
  obtain ⟨l, h', hll, hE', hF⟩ := hE.put2 (j := j) hk ha hd hf hC
  obtain ⟨v1, V1, φ1, h1, q, d, l1, e, f⟩ := hr l hll φ h' w x hE' hx
  exact ⟨v1, V1, φ1, h1, q, d, l1, e, hF.trans f⟩
theorem Re.put {N n0 : Nat} {K : Env → List VB → Prop} {env : Env} (k a j : Nat) (qs : List Nat) {I : Nat → Option Item} (row : List VV) (U : List VB) {C : VB} (C' : List Value → VB) (hk : lget V k = some (rest W0 I)) (ha : lget V a = some C) (hd : nodupB (k :: a :: qs) = true) (hf : fitB (rho qs V.length) V qs U)
    (hC : ∀ (φ : Phi) (f : Frag), C.ok W0 φ f a → ∃ l, denL φ (rnL (rho qs V.length) row) = some l ∧ (C' l).ok W0 φ f a)
    (hr : ∀ l : List Value, l.length = row.length → Re W0 N n0 K env (lset (emps (lset V k (rest W0 (upI I j (some ⟨l, row, U⟩)))) qs) a (C' l))) : Re W0 N n0 K env V := by
  intro φ hh w ac hE hR
  obtain ⟨l, h', hll, hE', hF⟩ := hE.put2 (j := j) hk ha hd hf hC
  obtain ⟨env1, V1, φ1, h1, q, l1, r, e, f⟩ := hr l hll φ h' w ac hE' hR
  exact ⟨env1, V1, φ1, h1, q, l1, r, e, hF.trans f⟩

/-- None yet. -/
theorem Emb.noneI {k : Nat} (hE : Emb W0 φ V h w) (hb : isBlk (lget V k) = true) : ∃ φ', φ.le φ' ∧ Emb W0 φ' (lapp V [rest W0 fun _ => none]) h w ∧ (∀ i, i < V.length → φ' i = φ i) := by
  obtain ⟨b, hφ⟩ := isBlk_at hE hb
  have hn : φ V.length = none := hE.dom _ (Nat.le_refl _)
  have hle := Phi.le_set (p := (b, 0)) hn
  rw [lapp_eq]
  obtain ⟨b1, b2⟩ := born_last (V := V) (vb := rest W0 fun _ => none) V.length rfl
  refine ⟨φ.set V.length (b, 0), hle, ⟨hE.size, hE.old, hE.sub, hE.disj, ?_, ?_⟩, ?_⟩
  · intro i hi
    simp at hi
    simp only [Phi.set, if_neg (show i ≠ V.length by omega)]
    exact hE.dom i (by omega)
  · intro i vb hi
    by_cases e1 : i = V.length
    · subst e1
      rw [b1] at hi; cases hi
      exact ⟨b, Phi.set_self .., (fun _ _ => none), (fun _ _ _ h => by cases h), (fun _ _ _ _ => .inl rfl), (fun _ _ h => by cases h)⟩
    · rw [b2 i e1] at hi
      exact VB.ok_mono hle (hE.sat i vb hi) (by intro h0; simp [Phi.set, e1, h0])
  · intro i hi
    simp [Phi.set, show i ≠ V.length by omega]
theorem ReV.noneI {n0 : Nat} {Q : VV → List VB → Prop} {v : VV} (k : Nat) (hb : isBlk (lget V k) = true) (hn : Nat.ble n0 V.length = true) (hr : ReV W0 n0 Q v (lapp V [rest W0 fun _ => Option.none])) : ReV W0 n0 Q v V := by
  intro φ hh w x hE hx
  obtain ⟨φ', hle, hE', hkeep⟩ := hE.noneI hb
  obtain ⟨v1, V1, φ1, h1, q, d, l1, e, f⟩ := hr φ' hh w x hE' (den_mono hle _ _ hx)
  refine ⟨v1, V1, φ1, h1, q, d, ?_, e, f⟩
  intro i hi y hy
  exact l1 i hi y (hle i y hy)

/-! Containers: what stands in them told by what it is in the world. -/
theorem den_raw {φ : Phi} {x y : Value} : den φ (.raw x) = some y ↔ x = y := by simp [den]
theorem denL_tell {φ : Phi} {v : VV} {x : Value} : ∀ {l : List VV} {r : List Value} {j : Nat} {u : VV}, denL φ l = some r → l[j]? = some u → den φ u = some x → den φ v = some x → denL φ (l.set j v) = some r
  | [], _, j, _, _, h, _, _ => by simp at h
  | a :: l, r, 0, u, h, hj, hu, hv => by
    obtain ⟨y, s, h1, h2, rfl⟩ := denL_cons.1 h
    simp at hj; subst hj
    rw [h1] at hu; cases hu
    exact denL_cons.2 ⟨_, _, hv, h2, rfl⟩
  | a :: l, r, j + 1, u, h, hj, hu, hv => by
    obtain ⟨y, s, h1, h2, rfl⟩ := denL_cons.1 h
    exact denL_cons.2 ⟨_, _, h1, denL_tell h2 (by simpa using hj) hu hv, rfl⟩
theorem map_tell {f : Frag} {a j : Nat} {ks vs : List VV} {v : VV} {x : Value} (hj : vs[j]? = some (.raw x)) (hd : denL φ [v] = some [x]) (h : (VB.map ks vs).ok W0 φ f a) : (VB.map ks (vs.set j v)).ok W0 φ f a := by
  obtain ⟨b, l, m, es, k, h1, h2, h3, h4⟩ := h
  obtain ⟨y, s, g1, g2, g3⟩ := denL_cons.1 hd
  have : y = x := by simp at g3; exact g3.1.symm
  subst this
  exact ⟨b, l, m, es, k, h1, h2, denL_tell h3 hj (den_raw.2 rfl) g1, h4⟩
theorem map_hide {f : Frag} {a j : Nat} {ks vs : List VV} {v : VV} (hj : vs[j]? = some v) (h : (VB.map ks vs).ok W0 φ f a) : ∃ l, denL φ [v] = some l ∧ (VB.map ks (vs.set j (.raw (l.headD (.int .i64 0))))).ok W0 φ f a := by
  obtain ⟨b, l, m, es, k, h1, h2, h3, h4⟩ := h
  obtain ⟨x, g1, _⟩ := denL_get h3 hj
  exact ⟨[x], denL_cons.2 ⟨x, [], g1, rfl, rfl⟩, b, l, m, es, k, h1, h2, denL_tell h3 hj g1 (den_raw.2 rfl), h4⟩
theorem denL_raws {φ : Phi} : ∀ l : List Value, denL φ (l.map .raw) = some l
  | [] => rfl
  | a :: l => denL_cons.2 ⟨a, l, rfl, denL_raws l, rfl⟩
theorem denL_flat_set {φ : Phi} {n : Nat} {row' : List VV} {l : List Value} : ∀ {xs : List (List VV)} {r : List Value} {j : Nat} {row : List VV}, denL φ xs.flatten = some r → xs[j]? = some row → denL φ row = some l → denL φ row' = some l → denL φ (xs.set j row').flatten = some r
  | [], _, j, _, _, h, _, _ => by simp at h
  | a :: xs, r, 0, row, h, hj, hu, hv => by
    rw [List.flatten_cons] at h
    obtain ⟨p, q, h1, h2, rfl⟩ := denL_append.1 h
    simp at hj; subst hj
    rw [h1] at hu; cases hu
    rw [List.set_cons_zero, List.flatten_cons]
    exact denL_append.2 ⟨_, _, hv, h2, rfl⟩
  | a :: xs, r, j + 1, row, h, hj, hu, hv => by
    rw [List.flatten_cons] at h
    obtain ⟨p, q, h1, h2, rfl⟩ := denL_append.1 h
    rw [List.set_cons_succ, List.flatten_cons]
    exact denL_append.2 ⟨_, _, h1, denL_flat_set (n := n) h2 (by simpa using hj) hu hv, rfl⟩
theorem denL_flat_get {φ : Phi} : ∀ {xs : List (List VV)} {r : List Value} {j : Nat} {row : List VV}, denL φ xs.flatten = some r → xs[j]? = some row → ∃ l, denL φ row = some l
  | [], _, j, _, _, h => by simp at h
  | a :: xs, r, j, row, h, hj => by
    rw [List.flatten_cons] at h
    obtain ⟨p, q, h1, h2, rfl⟩ := denL_append.1 h
    cases j with
    | zero => simp at hj; subst hj; exact ⟨p, h1⟩
    | succ j => exact denL_flat_get h2 (by simpa using hj)
theorem mem_set_len {n : Nat} {xs : List (List VV)} {j : Nat} {row : List VV} (h : ∀ x ∈ xs, x.length = n) (hr : row.length = n) : ∀ x ∈ xs.set j row, x.length = n := by
  intro x hx
  rcases List.mem_or_eq_of_mem_set hx with hx | hx
  · exact h x hx
  · rw [hx]; exact hr
theorem arr_tell {f : Frag} {a j e : Nat} {xs : List (List VV)} {t : Cap} {row : List VV} {l : List Value} (hj : xs[j]? = some (l.map .raw)) (hd : denL φ row = some l) (h : (VB.arr e xs t).ok W0 φ f a) : (VB.arr e (xs.set j row) t).ok W0 φ f a := by
  obtain ⟨b, r, rest, T, h1, h2, h3, h4, h5⟩ := h
  refine ⟨b, r, rest, T, h1, denL_flat_set (n := e) h2 hj (denL_raws l) hd, h3, h4, mem_set_len h5 ?_⟩
  have := h5 _ (List.mem_of_getElem? hj)
  rw [List.length_map] at this
  rw [← denL_length hd]; exact this
theorem arr_hide {f : Frag} {a j e : Nat} {xs : List (List VV)} {t : Cap} {row : List VV} (hj : xs[j]? = some row) (h : (VB.arr e xs t).ok W0 φ f a) : ∃ l, denL φ row = some l ∧ (VB.arr e (xs.set j (l.map .raw)) t).ok W0 φ f a := by
  obtain ⟨b, r, rest, T, h1, h2, h3, h4, h5⟩ := h
  obtain ⟨l, hl⟩ := denL_flat_get h2 hj
  refine ⟨l, hl, b, r, rest, T, h1, denL_flat_set (n := e) h2 hj hl (denL_raws l), h3, h4, mem_set_len h5 ?_⟩
  have := h5 _ (List.mem_of_getElem? hj)
  rw [List.length_map, denL_length hl]; exact this

/-! A box of which one of many heaps is within. -/
def bxE (W0 : World) (S : List VB → Prop) : VB := .abs fun f b => ∃ U, S U ∧ Box W0 U f b
theorem rnB_bxE (W0 : World) (S : List VB → Prop) (ρ : Nat → Nat) : rnB ρ (bxE W0 S) = bxE W0 S := rfl
theorem Ev.openE {f : FuncId} {args : List VV} {Q : VV → List VB → Prop} (k : Nat) {S : List VB → Prop} (hk : lget V k = some (bxE W0 S)) (hf : okFn P f = true) (he : ∀ U, S U → Ev P W0 f args (lset V k (bx W0 U)) Q) : Ev P W0 f args V Q := by
  refine ⟨hf, fun φ h w hE rargs hr => ?_⟩
  obtain ⟨b, hφ, U, hS, hB⟩ := hE.sat k _ (by rw [← lget_eq]; exact hk)
  exact (he U hS).2 φ h w (hE.weak hk fun _ => ⟨b, hφ, hB⟩) rargs hr
theorem ReV.shutE {n0 : Nat} {Q : VV → List VB → Prop} {v : VV} (k : Nat) (qs : List Nat) (U : List VB) (S : List VB → Prop) (hS : S U) (hd : nodupB (k :: qs) = true) (hb : isBlk (lget V k) = true) (hf : fitB (rho (k :: qs) V.length) V (k :: qs) U)
    (hr : ReV W0 n0 Q v (emps (lset V k (bxE W0 S)) qs)) : ReV W0 n0 Q v V := by
  intro φ hh w x hE hx
  obtain ⟨h', hE', hF⟩ := hE.shut hd hb hf
  have hkl : k < V.length := by
    rcases Nat.lt_or_ge k V.length with h | h
    · exact h
    · rw [lget_eq, List.getElem?_eq_none h] at hb; cases hb
  have hkq : ¬ k ∈ qs := by
    intro hm
    simp only [nodupB, hasNat_iff.2 hm] at hd
    cases hd
  have e : emps (lset V k (bxE W0 S)) qs = lset (emps (lset V k (bx W0 U)) qs) k (bxE W0 S) := by
    apply List.ext_getElem?
    intro i
    rw [lset_eq (emps _ _), emps_get]
    by_cases hi : i = k
    · subst hi
      rw [if_neg (fun e => hkq e.1), List.getElem?_set_self (by rw [emps_len, lset_eq, List.length_set]; exact hkl), lset_eq, List.getElem?_set_self hkl]
    · rw [List.getElem?_set_ne (Ne.symm hi), emps_get, lset_eq, lset_eq, List.length_set, List.length_set, List.getElem?_set_ne (Ne.symm hi), List.getElem?_set_ne (Ne.symm hi)]
  have hE2 : Emb W0 φ (emps (lset V k (bxE W0 S)) qs) h' w := by
    rw [e]
    refine hE'.weak (C := bx W0 U) ?_ ?_
    · rw [lget_eq, emps_get, if_neg (fun e => hkq e.1), lset_eq, List.getElem?_set_self hkl]
    · rintro ⟨b, h1, h2⟩; exact ⟨b, h1, U, hS, h2⟩
  obtain ⟨v1, V1, φ1, h1, q, d, l1, e1, f⟩ := hr φ h' w x hE2 hx
  exact ⟨v1, V1, φ1, h1, q, d, l1, e1, hF.trans f⟩
end
end Go.SL
