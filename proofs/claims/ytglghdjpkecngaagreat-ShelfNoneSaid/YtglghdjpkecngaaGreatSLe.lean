/- A symbolic executor over the model: the operations that look at their operands alone, joined. -/
import Derived.Test.YtglghdjpkecngaaGreatSLd
import Derived.Laws.StructEq
namespace Go.SL
section
variable {EV : FuncId → List VV → List VB → (VV → List VB → Prop) → Prop} {RE : (Env → List VB → Prop) → Env → List VB → Prop} {o : Ops EV RE} {P : Program} {cand : List TypeId} {N : Nat} {φ : Phi} {env : Env} {a : Act}

/-- It yields this in every world. -/
def Yld (P : Program) (a : Act) (op : Oper) (φ : Phi) (v : VV) : Prop := ∃ x, den φ v = some x ∧ ∀ w, (execOp a.eval op).run P w = .ok (.value x) w

theorem eqGuard_int {op : BinOp} {t : TypeId} {x y : Operand} {k k' : IntKind} {m n : Int} (w : World) : (eqGuard op t x y (.int k m) (.int k' n)).run P w = .ok () w := by
  unfold eqGuard; split <;> simp

theorem bin_run {op : BinOp} {k k' : IntKind} {x y : Int} {t : TypeId} (h : match sortOf op with
      | .ar => k = k' | .arN => needs op x y = true ∧ (op ≠ .shl → op ≠ .shr → k = k') | .cmp => k = k') (w : World) :
    (binOp op t (.int k x) (.int k' y)).run P w = .ok (match sortOf op with | .cmp => .bool (icmp op x y) | _ => .int k (arith op k x y)) w := by
  cases op <;> simp only [sortOf] at h ⊢
  case add | sub | mul => subst h; simp [binOp, Op.intArith, arith]
  case and | or | xor | andNot => subst h; simp [binOp, Op.intBits, arith]
  case quo | rem =>
    obtain ⟨h1, h2⟩ := h
    have h3 := h2 (by simp) (by simp)
    subst h3
    have hy : y ≠ 0 := by simpa [needs] using h1
    simp [binOp, Op.intDiv, arith, hy]
  case shl | shr =>
    obtain ⟨h1, _⟩ := h
    have hy : ¬ y < 0 := by simp [needs] at h1; omega
    simp [binOp, Op.shift, arith, hy]
  case eql | neq | lss | leq | gtr | geq => subst h; simp [binOp, Op.intCmp, icmp]

theorem str_run {op : BinOp} {x y : ByteArray} {t : TypeId} (w : World) :
    (op = .eql → (binOp op t (.string x) (.string y)).run P w = .ok (.bool (strEq x y)) w) ∧
    (op = .neq → (binOp op t (.string x) (.string y)).run P w = .ok (.bool (!strEq x y)) w) := by
  constructor <;> rintro rfl <;> simp [binOp, Op.stringOp, strEq]

def PK.fits : PK → TypeDesc → Bool
  | .bool, .bool => true
  | .ptr, .pointer _ => true
  | .sl, .slice _ => true
  | .map, .map _ _ => true
  | .fn, .func _ _ _ => true
  | .iface, .interface _ => true
  | _, _ => false

theorem equal_nil {pk : PK} {u v : VV} {b : Bool} (h : eqNil pk u v = some b) {x y : Value} (hx : den φ u = some x) (hy : den φ v = some y) {t : TypeId} {d : TypeDesc} (ht : P.underlying t = some d)
    (hd : pk.fits d = true) (w : World) : (Op.equal t x y).run P w = .ok b w := by
  rw [show Op.equal t x y = Op.equalIn (9999 + 1) t x y from rfl, Op.equalIn]
  simp only [Sem.run_bind, run_underlying ht, Result.andThen_ok]
  unfold eqNil at h
  split at h <;> cases h <;> (cases d <;> simp [PK.fits] at hd) <;> (try simp only [den_ptr, den_elt, den_slc, den_fn, den_iface] at hx hy) <;> (try simp only [den, Option.some.injEq, Option.map_eq_some_iff] at hx hy)
  all_goals
    (try obtain ⟨_, _, _, rfl⟩ := hx)
    (try obtain ⟨_, _, _, rfl⟩ := hy)
    (try obtain ⟨_, _, _, _, _, rfl⟩ := hx)
    (try obtain ⟨_, _, _, _, _, rfl⟩ := hy)
    (try obtain ⟨_, _, _, _, rfl⟩ := hx)
    (try obtain ⟨_, _, _, _, rfl⟩ := hy)
    (try obtain ⟨_, _, rfl⟩ := hx)
    (try obtain ⟨_, _, rfl⟩ := hy)
    (try subst hx)
    (try subst hy)
    (try rfl)

theorem bin_eqp {pk : PK} {neg : Bool} {u v : VV} {b : Bool} (hv : eqNil pk u v = some b) {x y : Value} (hx : den φ u = some x) (hy : den φ v = some y) {t : TypeId} {d : TypeDesc} (ht : P.underlying t = some d)
    (hd : pk.fits d = true) (w : World) : (binOp (if neg then .neq else .eql) t x y).run P w = .ok (.bool (if neg then !b else b)) w := by
  have he := equal_nil hv hx hy ht hd w
  unfold eqNil at hv
  split at hv <;> cases hv <;> (try simp only [den_ptr, den_elt, den_slc, den_fn, den_iface] at hx hy) <;> (try simp only [den, Option.some.injEq, Option.map_eq_some_iff] at hx hy)
  all_goals
    (try obtain ⟨_, _, _, rfl⟩ := hx)
    (try obtain ⟨_, _, _, rfl⟩ := hy)
    (try obtain ⟨_, _, _, _, _, rfl⟩ := hx)
    (try obtain ⟨_, _, _, _, _, rfl⟩ := hy)
    (try obtain ⟨_, _, _, _, rfl⟩ := hx)
    (try obtain ⟨_, _, _, _, rfl⟩ := hy)
    (try obtain ⟨_, _, rfl⟩ := hx)
    (try obtain ⟨_, _, rfl⟩ := hy)
    (try subst hx)
    (try subst hy)
    (cases neg <;> simp [binOp, he])

theorem guard_eqp {pk : PK} {op : BinOp} {u v : VV} {b : Bool} (hv : eqNil pk u v = some b) {x y : Value} (hx : den φ u = some x) (hy : den φ v = some y) {t : TypeId} {ox oy : Operand}
    (hc : (match pk with | .iface => isConst ox || isConst oy | _ => true) = true) (w : World) : (eqGuard op t ox oy x y).run P w = .ok () w := by
  unfold eqNil at hv
  split at hv <;> cases hv <;> (try simp only [den_ptr, den_elt, den_slc, den_fn, den_iface] at hx hy) <;> (try simp only [den, Option.some.injEq, Option.map_eq_some_iff] at hx hy)
  all_goals
    (try obtain ⟨_, _, _, rfl⟩ := hx)
    (try obtain ⟨_, _, _, rfl⟩ := hy)
    (try obtain ⟨_, _, _, _, _, rfl⟩ := hx)
    (try obtain ⟨_, _, _, _, _, rfl⟩ := hy)
    (try obtain ⟨_, _, _, _, rfl⟩ := hx)
    (try obtain ⟨_, _, _, _, rfl⟩ := hy)
    (try obtain ⟨_, _, rfl⟩ := hx)
    (try obtain ⟨_, _, rfl⟩ := hy)
    (try subst hx)
    (try subst hy)
    (unfold eqGuard; split <;> first | rfl | (cases ox <;> cases oy <;> first | rfl | (simp [isConst] at hc; done) | simp [isConst]))

/-! ### Structs made of integers, bools and strings -/
theorem matV_len : ∀ {ps : List Pr} {l : List VV}, matV ps l = true → l.length = ps.length
  | [], [], _ => rfl
  | .i k :: ps, .int k' n :: l, h => by
    simp only [matV] at h
    split at h
    · simp [matV_len h]
    · cases h
  | .b :: ps, .bool _ :: l, h => by simp only [matV] at h; simp [matV_len h]
  | .s :: ps, .str _ :: l, h => by simp only [matV] at h; simp [matV_len h]
theorem matV_app : ∀ {ps qs : List Pr} {l : List VV}, matV (ps ++ qs) l = true → matV ps (l.take ps.length) = true ∧ matV qs (l.drop ps.length) = true
  | [], qs, l, h => by simpa [matV] using h
  | .i k :: ps, qs, .int k' n :: l, h => by
    simp only [List.cons_append, matV] at h
    split at h
    · rename_i hk
      obtain ⟨h1, h2⟩ := matV_app h
      simp only [List.length_cons, List.take_succ_cons, List.drop_succ_cons, matV, hk]
      exact ⟨h1, h2⟩
    · cases h
  | .b :: ps, qs, .bool _ :: l, h => by
    simp only [List.cons_append, matV] at h
    obtain ⟨h1, h2⟩ := matV_app h
    simp only [List.length_cons, List.take_succ_cons, List.drop_succ_cons, matV]
    exact ⟨h1, h2⟩
  | .s :: ps, qs, .str _ :: l, h => by
    simp only [List.cons_append, matV] at h
    obtain ⟨h1, h2⟩ := matV_app h
    simp only [List.length_cons, List.take_succ_cons, List.drop_succ_cons, matV]
    exact ⟨h1, h2⟩
theorem eqL_app : ∀ {a b c d : List VV}, a.length = b.length → eqL (a ++ c) (b ++ d) = (eqL a b && eqL c d)
  | [], [], _, _, _ => rfl
  | x :: a, y :: b, c, d, h => by
    simp only [List.cons_append, eqL]
    rw [eqL_app (by simpa using h), Bool.and_assoc]
theorem rdn_of : ∀ {cs : List VV} {off n : Nat}, off + n ≤ cs.length → rdn cs off n = some ((cs.drop off).take n)
  | _, 0, 0, _ => by simp [rdn]
  | a :: cs, 0, n + 1, h => by
    have := rdn_of (cs := cs) (off := 0) (n := n) (by simp at h; omega)
    simp only [rdn, this]
    simp
  | a :: cs, off + 1, n, h => by
    have := rdn_of (cs := cs) (off := off) (n := n) (by simp at h; omega)
    simp only [rdn, this]
    simp
  | [], off + 1, 0, h => by simp at h
  | [], 0, n + 1, h => by simp at h
  | [], off + 1, n + 1, h => by simp at h
theorem eqFs_ok {fl : TypeId → Option (List Pr)} {D : Nat} {w : World} {a b : List VV} {xs ys : List Value} (ha : denL φ a = some xs) (hb : denL φ b = some ys)
    (hsz : ∀ t ps, fl t = some ps → sizeB P t = some ps.length ∧ ∃ g, isAggB P t = some g ∧ (g = true ∨ ps.length = 1))
    (ih : ∀ t ps g a b u v xu xv, fl t = some ps → isAggB P t = some g → pack g a = some u → pack g b = some v → matV ps a = true → matV ps b = true → den φ u = some xu → den φ v = some xv → (Op.equalIn D t xu xv).run P w = .ok (eqL a b) w) :
    ∀ {l : List Field} {off : Nat} {ps : List Pr}, eqFs fl off l = some ps → matV ps (a.drop off) = true → matV ps (b.drop off) = true → (Op.eqFields D xs.toArray ys.toArray l).run P w = .ok (eqL (a.drop off) (b.drop off)) w
  | [], off, ps, h, m1, m2 => by
    simp [eqFs] at h; subst h
    have h1 := matV_len m1
    have h2 := matV_len m2
    rw [List.eq_nil_of_length_eq_zero h1, List.eq_nil_of_length_eq_zero h2]
    simp [Op.eqFields, eqL]
  | f :: l, off, ps, h, m1, m2 => by
    simp only [eqFs] at h
    split at h
    · rename_i ps1 h1
      split at h
      · rename_i hc
        split at h
        · rename_i ps2 h2
          cases h
          obtain ⟨hoff, hname, hne⟩ := hc
          obtain ⟨g1, g2⟩ := matV_app m1
          obtain ⟨k1, k2⟩ := matV_app m2
          rw [List.drop_drop] at g2 k2
          obtain ⟨s1, g, s2, s3⟩ := hsz _ _ h1
          have lena := matV_len m1
          have lenb := matV_len m2
          simp only [List.length_append, List.length_drop] at lena lenb
          have ra : rdn a off ps1.length = some ((a.drop off).take ps1.length) := rdn_of (by omega)
          have rb : rdn b off ps1.length = some ((b.drop off).take ps1.length) := rdn_of (by omega)
          have pk : ∀ m : List VV, m.length = ps1.length → ∃ u, pack g m = some u := by
            intro m hm
            cases g with
            | true => exact ⟨.agg m, rfl⟩
            | false =>
              have : m.length = 1 := by rcases s3 with h | h; cases h; omega
              match m, this with
              | [u], _ => exact ⟨u, rfl⟩
          obtain ⟨u, hu⟩ := pk _ (matV_len g1)
          obtain ⟨v, hv⟩ := pk _ (matV_len k1)
          obtain ⟨xu, du, pu⟩ := run_part' s2 s1 s3 ha ra hu w
          obtain ⟨xv, dv, pv⟩ := run_part' s2 s1 s3 hb rb hv w
          have hq := ih _ _ _ _ _ _ _ _ _ h1 s2 hu hv g1 k1 du dv
          have hrest := eqFs_ok ha hb hsz ih h2 g2 k2
          have hsplit : eqL (a.drop off) (b.drop off) = (eqL ((a.drop off).take ps1.length) ((b.drop off).take ps1.length) && eqL (a.drop (off + ps1.length)) (b.drop (off + ps1.length))) := by
            rw [← eqL_app (by rw [matV_len g1, matV_len k1]), ← List.drop_drop, ← List.drop_drop, List.take_append_drop, List.take_append_drop]
          rw [Op.eqFields, if_pos hname, hsplit]
          rw [hoff]
          simp only [Sem.run_bind, pu, pv, hq, Result.andThen_ok]
          cases he : eqL ((a.drop off).take ps1.length) ((b.drop off).take ps1.length)
          · simp
          · simp only [Bool.not_true, Bool.false_eq_true, if_false, Bool.true_and]
            exact hrest
        · cases h
      · cases h
    · cases h
theorem eqT_size : ∀ (d : Nat) (t : TypeId) (ps : List Pr), eqT P d t = some ps → sizeB P t = some ps.length ∧ ∃ g, isAggB P t = some g ∧ (g = true ∨ ps.length = 1)
  | 0, t, ps, h => by simp [eqT] at h
  | d + 1, t, ps, h => by
    simp only [eqT] at h
    split at h
    · rename_i k hu; split at h
      · rename_i hs; cases h; exact ⟨hs, false, by simp [isAggB, hu], .inr rfl⟩
      · cases h
    · rename_i hu; split at h
      · rename_i hs; cases h; exact ⟨hs, false, by simp [isAggB, hu], .inr rfl⟩
      · cases h
    · rename_i hu; split at h
      · rename_i hs; cases h; exact ⟨hs, false, by simp [isAggB, hu], .inr rfl⟩
      · cases h
    · rename_i fs hu
      split at h
      · split at h
        · rename_i hs; cases h; exact ⟨hs.1, true, by simp [isAggB, hu], .inl rfl⟩
        · cases h
      · cases h
    · cases h
theorem equal_flat : ∀ (d D : Nat) (t : TypeId) (ps : List Pr) (g : Bool) (a b : List VV) (u v : VV) (xu xv : Value) (w : World), d ≤ D → eqT P d t = some ps → isAggB P t = some g → pack g a = some u → pack g b = some v → matV ps a = true → matV ps b = true →
    den φ u = some xu → den φ v = some xv → (Op.equalIn D t xu xv).run P w = .ok (eqL a b) w
  | 0, _, t, ps, _, _, _, _, _, _, _, _, _, h, _, _, _, _, _, _, _ => by simp [eqT] at h
  | d + 1, 0, _, _, _, _, _, _, _, _, _, _, hle, _, _, _, _, _, _, _, _ => by omega
  | d + 1, D + 1, t, ps, g, a, b, u, v, xu, xv, w, hle, h, hg, pa, pb, ma, mb, du, dv => by
    simp only [eqT] at h
    split at h
    · rename_i k hu
      split at h
      · cases h
        rw [isAggB, hu] at hg; cases hg
        match a, b, ma, mb, pa, pb with
        | [.int ka m], [.int kb n], ma, mb, pa, pb =>
          cases pa; cases pb
          simp only [matV] at ma mb
          split at ma
          · rename_i e1
            split at mb
            · rename_i e2
              have e1 := of_decide_eq_true e1
              have e2 := of_decide_eq_true e2
              subst e1; subst e2
              simp only [den, Option.some.injEq] at du dv
              subst du; subst dv
              rw [run_equalIn_int _ _ _ _ _ _ _ hu]
              simp [eqL, eqV]
            · cases mb
          · cases ma
      · cases h
    · rename_i hu
      split at h
      · cases h
        rw [isAggB, hu] at hg; cases hg
        match a, b, ma, mb, pa, pb with
        | [.bool m], [.bool n], ma, mb, pa, pb =>
          cases pa; cases pb
          simp only [den, Option.some.injEq] at du dv
          subst du; subst dv
          rw [run_equalIn_bool' _ _ _ _ _ hu]
          simp [eqL, eqV]
      · cases h
    · rename_i hu
      split at h
      · cases h
        rw [isAggB, hu] at hg; cases hg
        match a, b, ma, mb, pa, pb with
        | [.str m], [.str n], ma, mb, pa, pb =>
          cases pa; cases pb
          simp only [den, Option.some.injEq] at du dv
          subst du; subst dv
          rw [run_equalIn_string _ _ _ _ _ hu]
          simp [eqL, eqV, strEq]
      · cases h
    · rename_i fs hu
      split at h
      · rename_i qs hq
        split at h
        · rename_i hc
          cases h
          rw [isAggB, hu] at hg; cases hg
          simp only [pack, Option.some.injEq] at pa pb
          subst pa; subst pb
          obtain ⟨xs, dxs, rfl⟩ := den_agg.1 du
          obtain ⟨ys, dys, rfl⟩ := den_agg.1 dv
          have hfo : P.fieldsOf t = fs := by simp [Program.fieldsOf, hu]
          rw [run_equalIn_struct _ _ _ _ _ (by rw [hfo]; exact hu) hc.2, hfo]
          have := eqFs_ok (P := P) (D := D) (w := w) dxs dys (eqT_size d) (fun t ps g a b u v xu xv h1 h2 h3 h4 h5 h6 h7 h8 => equal_flat d D t ps g a b u v xu xv w (by omega) h1 h2 h3 h4 h5 h6 h7 h8) hq (by simpa using ma) (by simpa using mb)
          simpa using this
        · cases h
      · cases h
    · cases h
end
end Go.SL
