/- A symbolic executor over the model: the operations that look at their operands alone, joined. -/
import Derived.Test.YtebeabcbbcbdhaaSLd
namespace Go.SL
section
variable {EV : FuncId → List VV → List VB → (VV → List VB → Prop) → Prop} {RE : (Env → List VB → Prop) → Env → List VB → Prop} {o : Ops EV RE} {P : Program} {cand : List TypeId} {N : Nat} {φ : Phi} {env : Env} {a : Act}

/-- It yields this in every world. -/
def Yld (P : Program) (a : Act) (op : Oper) (φ : Phi) (v : VV) : Prop := ∃ x, den φ v = some x ∧ ∀ w, (execOp a.eval op).run P w = .ok (.value x) w

theorem eqGuard_int {op : BinOp} {t : TypeId} {x y : Operand} {k k' : IntKind} {m n : Int} (w : World) : (eqGuard op t x y (.int k m) (.int k' n)).run P w = .ok () w := by
  unfold eqGuard; split <;> simp

theorem bin_run {op : BinOp} {k k' : IntKind} {x y : Int} {t : TypeId} (h : match sortOf op with
      | .ar => k = k' | .arN => needs op x y = true ∧ (op ≠ .shl → op ≠ .shr → k = k') | .cmp => k = k') (w : World) :
    (binOp op t (.int k x) (.int k' y)).run P w = .ok (match sortOf op with | .cmp => .bool (icmp op x y) | _ => .int k (arith op k x y)) w := by
  cases op <;> simp only [sortOf] at h ⊢
  case add | sub | mul => subst h; simp [binOp, Op.intArith, arith]
  case and | or | xor | andNot => subst h; simp [binOp, Op.intBits, arith]
  case quo | rem =>
    obtain ⟨h1, h2⟩ := h
    have h3 := h2 (by simp) (by simp)
    subst h3
    have hy : y ≠ 0 := by simpa [needs] using h1
    simp [binOp, Op.intDiv, arith, hy]
  case shl | shr =>
    obtain ⟨h1, _⟩ := h
    have hy : ¬ y < 0 := by simp [needs] at h1; omega
    simp [binOp, Op.shift, arith, hy]
  case eql | neq | lss | leq | gtr | geq => subst h; simp [binOp, Op.intCmp, icmp]

theorem str_run {op : BinOp} {x y : ByteArray} {t : TypeId} (w : World) :
    (op = .eql → (binOp op t (.string x) (.string y)).run P w = .ok (.bool (strEq x y)) w) ∧
    (op = .neq → (binOp op t (.string x) (.string y)).run P w = .ok (.bool (!strEq x y)) w) := by
  constructor <;> rintro rfl <;> simp [binOp, Op.stringOp, strEq]

def PK.fits : PK → TypeDesc → Bool
  | .bool, .bool => true
  | .ptr, .pointer _ => true
  | .sl, .slice _ => true
  | .map, .map _ _ => true
  | .fn, .func _ _ _ => true
  | .iface, .interface _ => true
  | _, _ => false

theorem equal_nil {pk : PK} {u v : VV} {b : Bool} (h : eqNil pk u v = some b) {x y : Value} (hx : den φ u = some x) (hy : den φ v = some y) {t : TypeId} {d : TypeDesc} (ht : P.underlying t = some d)
    (hd : pk.fits d = true) (w : World) : (Op.equal t x y).run P w = .ok b w := by
  rw [show Op.equal t x y = Op.equalIn (9999 + 1) t x y from rfl, Op.equalIn]
  simp only [Sem.run_bind, run_underlying ht, Result.andThen_ok]
  unfold eqNil at h
  split at h <;> cases h <;> (cases d <;> simp [PK.fits] at hd) <;> (try simp only [den_ptr, den_elt, den_sl, den_fn, den_iface] at hx hy) <;> (try simp only [den, Option.some.injEq, Option.map_eq_some_iff] at hx hy)
  all_goals
    (try obtain ⟨_, _, _, rfl⟩ := hx)
    (try obtain ⟨_, _, _, rfl⟩ := hy)
    (try obtain ⟨_, _, _, _, rfl⟩ := hx)
    (try obtain ⟨_, _, _, _, rfl⟩ := hy)
    (try obtain ⟨_, _, rfl⟩ := hx)
    (try obtain ⟨_, _, rfl⟩ := hy)
    (try subst hx)
    (try subst hy)
    (try rfl)

theorem bin_eqp {pk : PK} {neg : Bool} {u v : VV} {b : Bool} (hv : eqNil pk u v = some b) {x y : Value} (hx : den φ u = some x) (hy : den φ v = some y) {t : TypeId} {d : TypeDesc} (ht : P.underlying t = some d)
    (hd : pk.fits d = true) (w : World) : (binOp (if neg then .neq else .eql) t x y).run P w = .ok (.bool (if neg then !b else b)) w := by
  have he := equal_nil hv hx hy ht hd w
  unfold eqNil at hv
  split at hv <;> cases hv <;> (try simp only [den_ptr, den_elt, den_sl, den_fn, den_iface] at hx hy) <;> (try simp only [den, Option.some.injEq, Option.map_eq_some_iff] at hx hy)
  all_goals
    (try obtain ⟨_, _, _, rfl⟩ := hx)
    (try obtain ⟨_, _, _, rfl⟩ := hy)
    (try obtain ⟨_, _, _, _, rfl⟩ := hx)
    (try obtain ⟨_, _, _, _, rfl⟩ := hy)
    (try obtain ⟨_, _, rfl⟩ := hx)
    (try obtain ⟨_, _, rfl⟩ := hy)
    (try subst hx)
    (try subst hy)
    (cases neg <;> simp [binOp, he])

theorem guard_eqp {pk : PK} {op : BinOp} {u v : VV} {b : Bool} (hv : eqNil pk u v = some b) {x y : Value} (hx : den φ u = some x) (hy : den φ v = some y) {t : TypeId} {ox oy : Operand}
    (hc : (match pk with | .iface => isConst ox || isConst oy | _ => true) = true) (w : World) : (eqGuard op t ox oy x y).run P w = .ok () w := by
  unfold eqNil at hv
  split at hv <;> cases hv <;> (try simp only [den_ptr, den_elt, den_sl, den_fn, den_iface] at hx hy) <;> (try simp only [den, Option.some.injEq, Option.map_eq_some_iff] at hx hy)
  all_goals
    (try obtain ⟨_, _, _, rfl⟩ := hx)
    (try obtain ⟨_, _, _, rfl⟩ := hy)
    (try obtain ⟨_, _, _, _, rfl⟩ := hx)
    (try obtain ⟨_, _, _, _, rfl⟩ := hy)
    (try obtain ⟨_, _, rfl⟩ := hx)
    (try obtain ⟨_, _, rfl⟩ := hy)
    (try subst hx)
    (try subst hy)
    (unfold eqGuard; split <;> first | rfl | (cases ox <;> cases oy <;> first | rfl | (simp [isConst] at hc; done) | simp [isConst]))
end
end Go.SL
