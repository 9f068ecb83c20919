/- A symbolic executor over the model: other numbers for the same blocks; a call made among more blocks. -/
import Derived.Test.YthoodnlihbaimaaSLn
namespace Go.SL

def Cap.rn (ρ : Nat → Nat) : Cap → Cap
  | .n k => .n k
  | .v i => .v (ρ i)
theorem Cap.cap_rn {φ : Phi} {ρ : Nat → Nat} {s n : Nat} : ∀ {c : Cap}, (c.rn ρ).cap φ s n = c.cap (fun i => φ (ρ i)) s n
  | .n _ => rfl
  | .v _ => rfl
theorem Cap.tot_rn {φ : Phi} {ρ : Nat → Nat} {s : Nat} : ∀ {c : Cap}, (c.rn ρ).tot φ s = c.tot (fun i => φ (ρ i)) s
  | .n _ => rfl
  | .v _ => rfl
mutual
def rn (ρ : Nat → Nat) : VV → VV
  | .int k n => .int k n
  | .bool b => .bool b
  | .str s => .str s
  | .nilPtr => .nilPtr
  | .ptr id off => .ptr (ρ id) off
  | .elt id e i off => .elt (ρ id) e i off
  | .nilSl => .nilSl
  | .sl id e s n c => .sl (ρ id) e s n (c.rn ρ)
  | .nilMap => .nilMap
  | .map id => .map (ρ id)
  | .nilChan => .nilChan
  | .chan id => .chan (ρ id)
  | .fn f a b => .fn f (rnL ρ a) (rnL ρ b)
  | .nilFn => .nilFn
  | .iface t v => .iface t (rn ρ v)
  | .nilIface => .nilIface
  | .agg cs => .agg (rnL ρ cs)
  | .tup cs => .tup (rnL ρ cs)
  | .raw x => .raw x
  | .osl oid e s n c => .osl (match oid with | some id => some (ρ id) | none => none) e s n c
def rnL (ρ : Nat → Nat) : List VV → List VV
  | [] => []
  | v :: l => rn ρ v :: rnL ρ l
end
def rnB (ρ : Nat → Nat) : VB → VB
  | .hole => .hole
  | .emp => .emp
  | .cells cs => .cells (rnL ρ cs)
  | .arr e xs t => .arr e (xs.map (rnL ρ)) (t.rn ρ)
  | .ro e xs => .ro e (xs.map (rnL ρ))
  | .abs R => .abs R
  | .chan cap xs => .chan cap (rnL ρ xs)
  | .map ks vs => .map (rnL ρ ks) (rnL ρ vs)
  | .num => .num

mutual
theorem den_rn {φ : Phi} {ρ : Nat → Nat} : ∀ v : VV, den φ (rn ρ v) = den (fun i => φ (ρ i)) v
  | .int _ _ | .bool _ | .str _ | .nilPtr | .nilSl | .nilMap | .nilChan | .nilFn | .nilIface | .raw _ => by simp [rn, den]
  | .ptr _ _ | .elt _ _ _ _ | .map _ | .chan _ => by simp [rn, den]
  | .sl _ _ _ _ _ => by simp [rn, den, Cap.cap_rn]
  | .osl oid _ _ _ _ => by cases oid <;> simp [rn, den]
  | .fn f a b => by simp [rn, den, denL_rn a, denL_rn b]
  | .iface t v => by simp [rn, den, den_rn v]
  | .agg cs => by simp [rn, den, denL_rn cs]
  | .tup cs => by simp [rn, den, denL_rn cs]
theorem denL_rn {φ : Phi} {ρ : Nat → Nat} : ∀ l : List VV, denL φ (rnL ρ l) = denL (fun i => φ (ρ i)) l
  | [] => by simp [rnL, denL]
  | v :: l => by simp [rnL, denL, den_rn v, denL_rn l]
end
theorem rnL_length {ρ : Nat → Nat} : ∀ l : List VV, (rnL ρ l).length = l.length
  | [] => rfl
  | _ :: l => by simp [rnL, rnL_length l]
theorem rnL_append {ρ : Nat → Nat} : ∀ l m : List VV, rnL ρ (l ++ m) = rnL ρ l ++ rnL ρ m
  | [], m => rfl
  | v :: l, m => by simp [rnL, rnL_append l m]
theorem rnL_flatten {ρ : Nat → Nat} : ∀ xs : List (List VV), (xs.map (rnL ρ)).flatten = rnL ρ xs.flatten
  | [] => rfl
  | x :: xs => by simp [rnL_append, rnL_flatten xs]
theorem rnL_map {ρ : Nat → Nat} : ∀ l : List VV, rnL ρ l = l.map (rn ρ)
  | [] => rfl
  | v :: l => by simp [rnL, rnL_map l]

theorem rnB_ok {W0 : World} {φ φ' : Phi} {ρ : Nat → Nat} {f : Frag} {i j : Nat} {b : VB} (hφ : ∀ i, φ' i = φ (ρ i)) (hj : j = ρ i) : (rnB ρ b).ok W0 φ f j ↔ b.ok W0 φ' f i := by
  have he : φ' = fun i => φ (ρ i) := funext hφ
  subst he
  subst hj
  cases b with
  | hole => exact Iff.rfl
  | emp => exact Iff.rfl
  | cells cs => simp only [rnB, VB.ok, denL_rn]
  | arr e xs t => simp only [rnB, VB.ok, rnL_flatten, denL_rn, List.forall_mem_map, rnL_length, Cap.tot_rn]
  | ro e xs => simp only [rnB, VB.ok, rnL_flatten, denL_rn, List.forall_mem_map, rnL_length]
  | abs R => exact Iff.rfl
  | num => exact Iff.rfl
  | chan cap xs => simp only [rnB, VB.ok, denL_rn]
  | map ks vs => simp only [rnB, VB.ok, denL_rn]

/-- The numbers: those of a list, then new ones. -/
def rho (ps : List Nat) (m : Nat) (i : Nat) : Nat :=
  match lget ps i with
  | some p => p
  | none => m + (i - llen ps)
theorem rho_lt {ps : List Nat} {m i : Nat} (h : i < ps.length) : ps[i]? = some (rho ps m i) := by
  unfold rho
  rw [lget_eq, List.getElem?_eq_getElem h]
theorem rho_ge {ps : List Nat} {m i : Nat} (h : ps.length ≤ i) : rho ps m i = m + (i - ps.length) := by
  unfold rho
  rw [lget_eq, List.getElem?_eq_none h, llen_eq]

/-- The entries of a list of numbers are these. -/
def fitB (ρ : Nat → Nat) (V : List VB) : List Nat → List VB → Prop
  | [], [] => True
  | p :: ps, b :: bs => (b = .emp ∨ lget V p = some (rnB ρ b)) ∧ fitB ρ V ps bs
  | _, _ => False
theorem fitB_get {ρ : Nat → Nat} {V : List VB} : ∀ {ps : List Nat} {bs : List VB}, fitB ρ V ps bs → ps.length = bs.length ∧ ∀ (i p : Nat) (b : VB), ps[i]? = some p → bs[i]? = some b → b = .emp ∨ V[p]? = some (rnB ρ b)
  | [], [], _ => ⟨rfl, fun i p b h => by simp at h⟩
  | p :: ps, b :: bs, ⟨h1, h2⟩ => by
    obtain ⟨g1, g2⟩ := fitB_get h2
    refine ⟨by simp [g1], fun i q c hq hc => ?_⟩
    cases i with
    | zero => simp at hq hc; subst hq; subst hc; rw [← lget_eq]; exact h1
    | succ i => exact g2 i q c (by simpa using hq) (by simpa using hc)
  | [], _ :: _, h => h.elim
  | _ :: _, [], h => h.elim

def nodupB : List Nat → Bool
  | [] => true
  | a :: l => match hasNat l a with
    | true => false
    | false => nodupB l
theorem hasNat_iff {a : Nat} : ∀ {l : List Nat}, hasNat l a = true ↔ a ∈ l
  | [] => by simp [hasNat]
  | b :: l => by
    simp only [hasNat]
    split
    · rename_i h; have := Nat.eq_of_beq_eq_true h; subst this; simp
    · rename_i h
      have : ¬ a = b := by rintro rfl; rw [Nat.beq_refl] at h; cases h
      simp [this, hasNat_iff]
theorem nodupB_iff : ∀ {l : List Nat}, nodupB l = true → ∀ {i j a : Nat}, l[i]? = some a → l[j]? = some a → i = j
  | [], _, i, j, a, h, _ => by simp at h
  | b :: l, h, i, j, a, hi, hj => by
    simp only [nodupB] at h
    split at h
    · cases h
    · rename_i hn
      have hb : ¬ b ∈ l := by intro hm; rw [hasNat_iff.2 hm] at hn; cases hn
      cases i with
      | zero =>
        cases j with
        | zero => rfl
        | succ j => simp at hi hj; subst hi; exact absurd (List.mem_of_getElem? hj) hb
      | succ i =>
        cases j with
        | zero => simp at hi hj; subst hj; exact absurd (List.mem_of_getElem? hi) hb
        | succ j => simp at hi hj; rw [nodupB_iff h hi hj]

section
variable {P : Program} {W0 : World}

/-- The blocks of what is looked at. -/
def hpart (V1 : List VB) (h : Nat → Frag) (ps : List Nat) (m : Nat) (i : Nat) : Frag :=
  match V1[i]? with
  | some .emp => fun _ => none
  | some _ => h (rho ps m i)
  | none => fun _ => none
def phiPart (φ : Phi) (ps : List Nat) (m : Nat) : Phi := fun i => φ (rho ps m i)
theorem hpart_own {V1 : List VB} {h : Nat → Frag} {ps : List Nat} {m i b : Nat} {o : Obj} (hb : hpart V1 h ps m i b = some o) : i < V1.length ∧ h (rho ps m i) b = some o := by
  unfold hpart at hb
  cases hv : V1[i]? with
  | none => simp only [hv] at hb; cases hb
  | some v =>
    simp only [hv] at hb
    refine ⟨(List.getElem?_eq_some_iff.1 hv).1, ?_⟩
    cases v <;> first | exact hb | cases hb

/-- What of a virtual heap is looked at, with other numbers. -/
theorem Emb.part {φ : Phi} {V V1 : List VB} {h : Nat → Frag} {w : World} {ps : List Nat} {m : Nat} (hE : Emb W0 φ V h w) (hm : V.length ≤ m) (hf : fitB (rho ps m) V ps V1) (hd : nodupB ps = true) :
    Emb W0 (phiPart φ ps m) V1 (hpart V1 h ps m) w := by
  obtain ⟨hl, hg⟩ := fitB_get hf
  refine ⟨hE.size, hE.old, ?_, ?_, ?_, ?_⟩
  · intro i b o hb; exact hE.sub _ b o (hpart_own hb).2
  · intro i j b hij
    cases hb : hpart V1 h ps m i b with
    | none => exact .inl rfl
    | some o =>
      right
      cases hc : hpart V1 h ps m j b with
      | none => rfl
      | some o2 =>
        obtain ⟨g1, g2⟩ := hpart_own hb
        obtain ⟨g3, g4⟩ := hpart_own hc
        have hne : rho ps m i ≠ rho ps m j := by
          intro e
          have e1 := rho_lt (ps := ps) (m := m) (i := i) (by omega)
          have e2 := rho_lt (ps := ps) (m := m) (i := j) (by omega)
          rw [e] at e1
          exact hij (nodupB_iff hd e1 e2)
        rcases hE.disj _ _ b hne with h0 | h0
        · rw [h0] at g2; cases g2
        · rw [h0] at g4; cases g4
  · intro i hi
    unfold phiPart
    rw [rho_ge (by omega)]
    exact hE.dom _ (by omega)
  · intro i vb hi
    have hlt : i < ps.length := by rw [hl]; exact (List.getElem?_eq_some_iff.1 hi).1
    have hp := rho_lt (m := m) hlt
    rcases hg i _ vb hp hi with rfl | hv
    · trivial
    · have := hE.sat _ _ hv
      have h2 := (rnB_ok (W0 := W0) (φ := φ) (φ' := phiPart φ ps m) (f := h (rho ps m i)) (b := vb) (fun _ => rfl) rfl).1 this
      unfold hpart
      rw [hi]
      cases vb with
      | emp => trivial
      | _ => exact h2

theorem Fr.part {V1 : List VB} {h : Nat → Frag} {w : World} {ps : List Nat} {m : Nat} : Fr h (hpart V1 h ps m) w w :=
  ⟨Nat.le_refl _, fun _ _ _ => rfl, fun _ _ _ hb => .inl ⟨_, _, (hpart_own hb).2⟩, Sm.refl w⟩

/-- The first numbers stay. -/
def keeps : Nat → Nat → List Nat → Bool
  | 0, _, _ => true
  | n + 1, i, p :: ps => match Nat.beq p i with
    | true => keeps n (i + 1) ps
    | false => false
  | _ + 1, _, [] => false
theorem keeps_get : ∀ {n i : Nat} {ps : List Nat}, keeps n i ps = true → ∀ j, j < n → ps[j]? = some (i + j)
  | 0, _, _, _, j, hj => by omega
  | n + 1, i, p :: ps, h, j, hj => by
    simp only [keeps] at h
    split at h
    · rename_i hb
      have := Nat.eq_of_beq_eq_true hb
      subst this
      cases j with
      | zero => simp
      | succ j =>
        have := keeps_get h j (by omega)
        rw [List.getElem?_cons_succ, this]; congr 1; omega
    · cases h
  | _ + 1, _, [], h, _, _ => by simp [keeps] at h

theorem leN_part {φ : Phi} {ps : List Nat} {m n0 : Nat} (hk : keeps n0 0 ps = true) : φ.leN n0 (phiPart φ ps m) := by
  intro i hi x hx
  have h1 := keeps_get hk i hi
  have hlt : i < ps.length := (List.getElem?_eq_some_iff.1 h1).1
  have h2 := rho_lt (m := m) hlt
  rw [h1] at h2
  injection h2 with h2
  rw [Nat.zero_add] at h2
  unfold phiPart
  rw [← h2]; exact hx

/-- A result among other numbers. -/
def ReV (W0 : World) (n0 : Nat) (Q : VV → List VB → Prop) (v : VV) (V : List VB) : Prop :=
  ∀ φ h w x, Emb W0 φ V h w → den φ v = some x → ∃ v1 V1 φ1 h1, Q v1 V1 ∧ den φ1 v1 = some x ∧ φ.leN n0 φ1 ∧ Emb W0 φ1 V1 h1 w ∧ Fr h h1 w w

theorem ReV.ren {n0 : Nat} {Q : VV → List VB → Prop} {v : VV} {V : List VB} (ps : List Nat) (v1 : VV) (V1 : List VB) (hk : keeps n0 0 ps = true) (hd : nodupB ps = true)
    (hv : v = rn (rho ps V.length) v1) (hf : fitB (rho ps V.length) V ps V1) (hq : Q v1 V1) : ReV W0 n0 Q v V := by
  intro φ h w x hE hx
  subst hv
  rw [den_rn] at hx
  exact ⟨v1, V1, _, _, hq, hx, leN_part hk, hE.part (Nat.le_refl _) hf hd, Fr.part⟩

theorem Ev.re {f : FuncId} {args : List VV} {V : List VB} {Q : VV → List VB → Prop} (h : Ev P W0 f args V (ReV W0 V.length Q)) : Ev P W0 f args V Q := by
  refine ⟨h.1, fun φ hh w he rargs hr => (h.2 φ hh w he rargs hr).mono ?_⟩
  rintro e w' ⟨v, x, V', φ', h', rfl, h2, h3, h4, h5, h6⟩
  obtain ⟨v1, V1, φ1, h1, q1, q2, q3, q4, q5⟩ := h3 φ' h' w' x h5 h2
  refine ⟨v1, x, V1, φ1, h1, rfl, q2, q1, ?_, q4, h6.trans q5⟩
  intro i y hy
  refine q3 i ?_ y (h4 i y hy)
  rcases Nat.lt_or_ge i V.length with h | h
  · exact h
  · rw [he.dom i h] at hy; cases hy

/-- Some temps are known, the others hold whatever they hold. -/
def assoc : List (Nat × VV) → Nat → Option VV
  | [], _ => none
  | (a, v) :: l, t => match Nat.beq t a with
    | true => some v
    | false => assoc l t
def mix (l : List (Nat × VV)) (r : Nat → Value) (t : Nat) : VV :=
  match assoc l t with
  | some v => v
  | none => .raw (r t)
def mixOk (ρ : Nat → Nat) (env : Env) : List (Nat × VV) → Prop
  | [] => True
  | (t, v) :: l => env t = rn ρ v ∧ mixOk ρ env l
theorem mixOk_get {ρ : Nat → Nat} {env : Env} : ∀ {l : List (Nat × VV)} {t : Nat} {v : VV}, mixOk ρ env l → assoc l t = some v → env t = rn ρ v
  | [], _, _, _, h => by simp [assoc] at h
  | (a, u) :: l, t, v, ⟨h1, h2⟩, h => by
    simp only [assoc] at h
    split at h
    · rename_i hb
      cases h
      rw [Nat.eq_of_beq_eq_true hb]; exact h1
    · exact mixOk_get h2 h

theorem Re.ren {N n0 : Nat} {K : Env → List VB → Prop} {env : Env} {V : List VB} (ps : List Nat) (l : List (Nat × VV)) (V1 : List VB) (hk : keeps n0 0 ps = true) (hd : nodupB ps = true)
    (hl : mixOk (rho ps V.length) env l) (hf : fitB (rho ps V.length) V ps V1) (hq : ∀ r, K (mix l r) V1) : Re W0 N n0 K env V := by
  intro φ h w a hE hR
  refine ⟨mix l (fun t => (a.tmps[t]?).getD undef), V1, _, _, hq _, leN_part hk, ⟨hR.size, fun t ht => ?_⟩, hE.part (Nat.le_refl _) hf hd, Fr.part⟩
  obtain ⟨x, h1, h2⟩ := hR.val t ht
  refine ⟨x, ?_, h2⟩
  unfold mix
  cases ha : assoc l t with
  | none => simp [den, h2]
  | some v => rw [mixOk_get hl ha, den_rn] at h1; exact h1
end
end Go.SL
