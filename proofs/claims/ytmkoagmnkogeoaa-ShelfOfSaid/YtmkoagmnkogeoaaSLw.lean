/- A run of closed code, computed with less work: the same as in SLv. -/
import Derived.Test.YtmkoagmnkogeoaaSLv
set_option linter.unusedVariables false
set_option linter.unusedSimpArgs false
set_option linter.unusedSectionVars false
namespace Go.SL
noncomputable section
section
variable {β : Type}
def nthK (l : List VV) (n : Nat) (k : VV → β) : β :=
  List.rec (motive := fun _ => Nat → β) (fun _ => k vundef) (fun a _ ih n => Nat.rec (motive := fun _ => β) (k a) (fun m _ => ih m) n) l n
theorem nthK_eq : ∀ (l : List VV) (n : Nat) (k : VV → β), nthK l n k = k (envOf l n)
  | [], n, k => rfl
  | a :: l, 0, k => rfl
  | a :: l, n + 1, k => nthK_eq l n k
def nthO {γ : Type} (l : List γ) (n : Nat) (k : γ → Option β) : Option β :=
  List.rec (motive := fun _ => Nat → Option β) (fun _ => none) (fun a _ ih n => Nat.rec (motive := fun _ => Option β) (k a) (fun m _ => ih m) n) l n
theorem nthO_some {γ : Type} : ∀ {l : List γ} {n : Nat} {k : γ → Option β} {r : β}, nthO l n k = some r → ∃ a, lget l n = some a ∧ k a = some r
  | [], n, k, r, h => by simp [nthO] at h
  | a :: l, 0, k, r, h => ⟨a, rfl, h⟩
  | a :: l, n + 1, k, r, h => nthO_some (l := l) h
def setO {γ : Type} (l : List γ) (n : Nat) (x : γ) (k : List γ → Option β) : Option β :=
  List.rec (motive := fun _ => Nat → (List γ → Option β) → Option β) (fun _ _ => none) (fun a l ih n k => Nat.rec (motive := fun _ => Option β) (k (x :: l)) (fun m _ => ih m fun l => k (a :: l)) n) l n k
theorem setO_some {γ : Type} {x : γ} : ∀ {l : List γ} {n : Nat} {k : List γ → Option β} {r : β}, setO l n x k = some r → n < l.length ∧ k (lset l n x) = some r
  | [], n, k, r, h => by simp [setO] at h
  | a :: l, 0, k, r, h => ⟨by simp, h⟩
  | a :: l, n + 1, k, r, h => by
    obtain ⟨h1, h2⟩ := setO_some (l := l) (k := fun l => k (a :: l)) h
    exact ⟨by simpa using h1, h2⟩
def appR {γ : Type} (l m : List γ) (k : List γ → β) : β :=
  List.rec (motive := fun _ => (List γ → β) → β) (fun k => k m) (fun a _ ih k => ih fun l => k (a :: l)) l k
theorem appR_eq {γ : Type} {m : List γ} : ∀ (l : List γ) (k : List γ → β), appR l m k = k (lapp l m)
  | [], k => rfl
  | a :: l, k => by
    have := appR_eq (m := m) l (fun l => k (a :: l))
    exact this
def lenR {γ : Type} (l : List γ) (n : Nat) : Nat := List.rec (motive := fun _ => Nat → Nat) (fun n => n) (fun _ _ ih n => ih (Nat.succ n)) l n
theorem lenR_eq {γ : Type} : ∀ (l : List γ) (n : Nat), lenR l n = n + llen l
  | [], n => rfl
  | a :: l, n => by
    have := lenR_eq l (Nat.succ n)
    have h2 : lenR (a :: l) n = lenR l (Nat.succ n) := rfl
    rw [h2, this, llen]; omega
def evK (E : List VV) (x : Rd) (k : VV → β) : β :=
  match x with
  | .t n => nthK E n k
  | .c v => k v
theorem evK_eq (E : List VV) (x : Rd) (k : VV → β) : evK E x k = k (x.ev (envOf E)) := by
  cases x <;> simp [evK, Rd.ev, nthK_eq]
def evsK (E : List VV) (l : List Rd) (k : List VV → β) : β :=
  List.rec (motive := fun _ => (List VV → β) → β) (fun k => k []) (fun x _ ih k => evK E x fun v => ih fun l => k (v :: l)) l k
theorem evsK_eq (E : List VV) : ∀ (l : List Rd) (k : List VV → β), evsK E l k = k (evs (envOf E) l)
  | [], k => rfl
  | x :: l, k => by
    have := evsK_eq E l
    have h2 : evsK E (x :: l) k = evK E x fun v => evsK E l fun l => k (v :: l) := rfl
    rw [h2, evK_eq, this]; rfl
end

/-! Arithmetic of small numbers. -/
def limK : IntKind → Nat
  | .i8 => 128 | .i16 => 32768 | .i32 => 2147483648 | .i64 => 9223372036854775808
  | .u8 => 256 | .u16 => 65536 | .u32 => 4294967296 | .u64 => 18446744073709551616
theorem wrap_small {k : IntKind} {n : Nat} (h : n < limK k) : k.wrap (n : Int) = n := by
  cases k <;> simp only [limK] at h <;> simp only [IntKind.wrap, IntKind.bits, IntKind.signed] <;> simp <;> omega
def okN (k : IntKind) (r : Nat) (slow : Int) (f : Int → Option VV) : Option VV :=
  match Nat.blt r (limK k) with
  | true => fN r fun r => f (.ofNat r)
  | false => fI slow f
theorem okN_eq {k : IntKind} {r : Nat} {slow : Int} {f : Int → Option VV} (h : slow = k.wrap (r : Int)) : okN k r slow f = f slow := by
  unfold okN
  split
  · rename_i hb
    rw [fN_eq, h, wrap_small (by rw [Nat.blt_eq] at hb; exact hb)]
    rfl
  · rw [fI_eq]
/-- What an operation on two integers yields, and what must hold for it. -/
def pvBin (op : BinOp) (x y : VV) : Option (VV × Option Bool) :=
  match x, y with
  | .int k a, .int k' b => match sortOf op with
    | .ar => match decide (k = k') with
      | true => some (.int k (arith op k a b), none)
      | false => none
    | .arN => match op with
      | .shl => some (.int k (arith op k a b), some (needs op a b))
      | .shr => some (.int k (arith op k a b), some (needs op a b))
      | _ => match decide (k = k') with
        | true => some (.int k (arith op k a b), some (needs op a b))
        | false => none
    | .cmp => match decide (k = k') with
      | true => some (.bool (icmp op a b), none)
      | false => none
  | .str a, .str b => match op with
    | .eql => some (.bool (strEq a b), none)
    | .neq => some (.bool (!strEq a b), none)
    | _ => none
  | _, _ => none
theorem pval_bin (op : BinOp) (x y : Rd) (env : Env) : pval o0 (.bin op x y) env = pvBin op (x.ev env) (y.ev env) := rfl
def kB : IntKind → IntKind → Bool
  | .i8, .i8 => true | .i16, .i16 => true | .i32, .i32 => true | .i64, .i64 => true | .u8, .u8 => true | .u16, .u16 => true | .u32, .u32 => true | .u64, .u64 => true | _, _ => false
theorem kB_eq {a b : IntKind} (h : kB a b = true) : a = b := by cases a <;> cases b <;> first | rfl | cases h
/-- Two numbers that are not below 0. -/
def binN (op : BinOp) (k : IntKind) (m n : Nat) : Option VV :=
  match op with
  | .add => okN k (Nat.add m n) (k.wrap (Int.ofNat m + Int.ofNat n)) fun r => some (.int k r)
  | .sub => match Nat.ble n m with
    | true => okN k (Nat.sub m n) (k.wrap (Int.ofNat m - Int.ofNat n)) fun r => some (.int k r)
    | false => none
  | .mul => okN k (Nat.mul m n) (k.wrap (Int.ofNat m * Int.ofNat n)) fun r => some (.int k r)
  | .eql => fBo (Nat.beq m n) fun b => some (.bool b)
  | .neq => fBo (Nat.beq m n) fun b => some (.bool (!b))
  | .lss => fBo (Nat.blt m n) fun b => some (.bool b)
  | .leq => fBo (Nat.ble m n) fun b => some (.bool b)
  | .gtr => fBo (Nat.blt n m) fun b => some (.bool b)
  | .geq => fBo (Nat.ble n m) fun b => some (.bool b)
  | .and => match Nat.blt m (limK k), Nat.blt n (limK k) with
    | true, true => fN (Nat.land m n) fun r => some (.int k (.ofNat r))
    | _, _ => none
  | .or => match Nat.blt m (limK k), Nat.blt n (limK k), Nat.blt (Nat.lor m n) (limK k) with
    | true, true, true => fN (Nat.lor m n) fun r => some (.int k (.ofNat r))
    | _, _, _ => none
  | _ => none
theorem bitsK {k : IntKind} : limK k ≤ 2 ^ k.bits := by cases k <;> decide
theorem binN_ok {op : BinOp} {k : IntKind} {m n : Nat} {v : VV} (h : binN op k m n = some v) : pvBin op (.int k (.ofNat m)) (.int k (.ofNat n)) = some (v, none) := by
  cases op <;> simp only [binN] at h
  case add => rw [okN_eq (by simp)] at h; cases h; simp [pvBin, sortOf, arith]
  case sub =>
    split at h
    · rename_i hb
      rw [Nat.ble_eq] at hb
      rw [okN_eq (by congr 1; simp only [Int.ofNat_eq_natCast]; exact (Int.ofNat_sub hb).symm)] at h; cases h; simp [pvBin, sortOf, arith]
    · cases h
  case mul => rw [okN_eq (by simp)] at h; cases h; simp [pvBin, sortOf, arith]
  case eql =>
    rw [fBo_eq] at h; cases h
    simp only [pvBin, sortOf, icmp, decide_true, Option.some.injEq, Prod.mk.injEq, VV.bool.injEq, and_true, Int.ofNat_eq_natCast]
    rw [Bool.eq_iff_iff]; simp; omega
  case neq =>
    rw [fBo_eq] at h; cases h
    simp only [pvBin, sortOf, icmp, decide_true, Option.some.injEq, Prod.mk.injEq, VV.bool.injEq, and_true, Int.ofNat_eq_natCast]
    by_cases hmn : m = n
    · subst hmn; simp
    · have : Nat.beq m n = false := by
        cases hb : Nat.beq m n with
        | false => rfl
        | true => exact absurd (Nat.eq_of_beq_eq_true hb) hmn
      rw [this, Bool.eq_iff_iff]; simp; omega
  case lss =>
    rw [fBo_eq] at h; cases h
    simp only [pvBin, sortOf, icmp, decide_true, Option.some.injEq, Prod.mk.injEq, VV.bool.injEq, and_true, Int.ofNat_eq_natCast]
    rw [Bool.eq_iff_iff]; simp
  case leq =>
    rw [fBo_eq] at h; cases h
    simp only [pvBin, sortOf, icmp, decide_true, Option.some.injEq, Prod.mk.injEq, VV.bool.injEq, and_true, Int.ofNat_eq_natCast]
    rw [Bool.eq_iff_iff]; simp
  case gtr =>
    rw [fBo_eq] at h; cases h
    simp only [pvBin, sortOf, icmp, decide_true, Option.some.injEq, Prod.mk.injEq, VV.bool.injEq, and_true, Int.ofNat_eq_natCast]
    rw [Bool.eq_iff_iff]; simp
  case geq =>
    rw [fBo_eq] at h; cases h
    simp only [pvBin, sortOf, icmp, decide_true, Option.some.injEq, Prod.mk.injEq, VV.bool.injEq, and_true, Int.ofNat_eq_natCast]
    rw [Bool.eq_iff_iff]; simp
  case and =>
    split at h
    · rename_i h1 h2
      rw [Nat.blt_eq] at h1 h2
      rw [fN_eq] at h; cases h
      have hb := @bitsK k
      have e1 : (BitVec.ofInt k.bits (Int.ofNat m) &&& BitVec.ofInt k.bits (Int.ofNat n)).toNat = Nat.land m n := by
        simp only [BitVec.toNat_and, Int.ofNat_eq_natCast, BitVec.ofInt_natCast, BitVec.toNat_ofNat]
        rw [Nat.mod_eq_of_lt (by omega), Nat.mod_eq_of_lt (by omega)]; rfl
      have hle : Nat.land m n ≤ m := Nat.and_le_left
      simp only [pvBin, sortOf, arith, decide_true]
      rw [e1, wrap_small (by omega)]; rfl
    · cases h
  case or =>
    split at h
    · rename_i h1 h2 h3
      rw [Nat.blt_eq] at h1 h2 h3
      rw [fN_eq] at h; cases h
      have hb := @bitsK k
      have e1 : (BitVec.ofInt k.bits (Int.ofNat m) ||| BitVec.ofInt k.bits (Int.ofNat n)).toNat = Nat.lor m n := by
        simp only [BitVec.toNat_or, Int.ofNat_eq_natCast, BitVec.ofInt_natCast, BitVec.toNat_ofNat]
        rw [Nat.mod_eq_of_lt (by omega), Nat.mod_eq_of_lt (by omega)]; rfl
      simp only [pvBin, sortOf, arith, decide_true]
      rw [e1, wrap_small h3]; rfl
    · cases h
  all_goals cases h
def slowBin {β : Type} (op : BinOp) (x y : VV) (k : VV → Option β) : Option β :=
  match pvBin op x y with
  | some (v, none) => fV v k
  | some (v, some b) => match b with
    | true => fV v k
    | false => none
  | none => none
def intBin {β : Type} (op : BinOp) (kd : IntKind) (m : Nat) (y : VV) (k : VV → Option β) : Option β :=
  match y with
  | .int kd' (.ofNat n) => match kB kd kd' with
    | true => match binN op kd m n with
      | some v => k v
      | none => slowBin op (.int kd (.ofNat m)) (.int kd' (.ofNat n)) k
    | false => slowBin op (.int kd (.ofNat m)) (.int kd' (.ofNat n)) k
  | y => slowBin op (.int kd (.ofNat m)) y k
def binK {β : Type} (op : BinOp) (x y : VV) (k : VV → Option β) : Option β :=
  match x with
  | .int kd (.ofNat m) => intBin op kd m y k
  | x => slowBin op x y k

/-- It comes to a value, by the operands alone. -/
def PvR (op : I) (E : List VV) {β : Type} (r : β) (k : VV → Option β) : Prop :=
  ∃ v c, pval o0 op (envOf E) = some (v, c) ∧ (c = none ∨ c = some true) ∧ k v = some r
theorem slow_ok {β : Type} {op : BinOp} {x y : Rd} {E : List VV} {k : VV → Option β} {r : β} (h : slowBin op (x.ev (envOf E)) (y.ev (envOf E)) k = some r) : PvR (.bin op x y) E r k := by
  unfold slowBin at h
  split at h
  · rename_i v h1; rw [fV_eq] at h; exact ⟨v, none, h1, .inl rfl, h⟩
  · rename_i v b h1
    split at h
    · rw [fV_eq] at h; exact ⟨v, _, h1, .inr rfl, h⟩
    · cases h
  · cases h
theorem binK_ok {β : Type} {op : BinOp} {x y : Rd} {E : List VV} {k : VV → Option β} {r : β} (h : binK op (x.ev (envOf E)) (y.ev (envOf E)) k = some r) : PvR (.bin op x y) E r k := by
  unfold binK at h
  split at h
  · rename_i kd m hx
    unfold intBin at h
    split at h
    · rename_i kd' n hy
      split at h
      · rename_i hk
        have := kB_eq hk
        subst this
        split at h
        · rename_i v hv
          refine ⟨v, none, ?_, .inl rfl, h⟩
          rw [pval_bin, hx, hy]; exact binN_ok hv
        · rw [← hx, ← hy] at h; exact slow_ok h
      · rw [← hx, ← hy] at h; exact slow_ok h
    · rw [← hx] at h; exact slow_ok h
  · exact slow_ok h

def fadK {β : Type} (off : Nat) (x : VV) (k : VV → Option β) : Option β :=
  match x with
  | .ptr i f => fN (Nat.add f off) fun f => k (.ptr i f)
  | .elt i e j f => fN (Nat.add f off) fun f => k (.elt i e j f)
  | _ => none
def chkK {β : Type} (x : VV) (k : VV → Option β) : Option β :=
  match x with
  | .ptr i f => k (.ptr i f)
  | .elt i e j f => k (.elt i e j f)
  | .fn f a b => k (.fn f a b)
  | _ => none
def iadK {β : Type} (esz : Nat) (x i : VV) (k : VV → Option β) : Option β :=
  match x with
  | .sl id e s n _ => match i with
    | .int _ (.ofNat j) => match Nat.beq e esz with
      | true => match Nat.blt j n with
        | true => fN (Nat.add s j) fun s => k (.elt id e s 0)
        | false => none
      | false => none
    | _ => none
  | _ => none
def fldK {β : Type} (off n : Nat) (agg : Bool) (x : VV) (k : VV → Option β) : Option β :=
  match x with
  | .agg cs => match rdn cs off n with
    | some l => match pack agg l with
      | some v => fV v k
      | none => none
    | none => none
  | _ => none
def pvK {β : Type} (op : I) (E : List VV) (k : VV → Option β) : Option β :=
  match pval o0 op (envOf E) with
  | some (v, none) => fV v k
  | some (v, some b) => match b with
    | true => fV v k
    | false => none
  | none => none
theorem pvK_ok {β : Type} {op : I} {E : List VV} {k : VV → Option β} {r : β} (h : pvK op E k = some r) : PvR op E r k := by
  unfold pvK at h
  split at h
  · rename_i v h1; rw [fV_eq] at h; exact ⟨v, none, h1, .inl rfl, h⟩
  · rename_i v b h1
    split at h
    · rw [fV_eq] at h; exact ⟨v, _, h1, .inr rfl, h⟩
    · cases h
  · cases h
/-- Operations that look at their operands alone. -/
def pureR {β : Type} (op : I) (E : List VV) (k : VV → Option β) : Option β :=
  match op with
  | .mov x => evK E x k
  | .bin op x y => evK E x fun x => evK E y fun y => binK op x y k
  | .fad off x => evK E x fun x => fadK off x k
  | .chk x => evK E x fun x => chkK x k
  | .iad esz x i => evK E x fun x => evK E i fun i => iadK esz x i k
  | .fld off n agg x => evK E x fun x => fldK off n agg x k
  | op => pvK op E k
theorem pureR_ok {β : Type} {op : I} {E : List VV} {k : VV → Option β} {r : β} (h : pureR op E k = some r) : PvR op E r k := by
  unfold pureR at h
  split at h
  · rw [evK_eq] at h; exact ⟨_, none, rfl, .inl rfl, h⟩
  · rw [evK_eq, evK_eq] at h; exact binK_ok h
  · rename_i off x
    rw [evK_eq] at h
    unfold fadK at h
    split at h
    · rename_i i f hx; rw [fN_eq] at h; exact ⟨_, none, by simp [pval, hx], .inl rfl, h⟩
    · rename_i i e j f hx; rw [fN_eq] at h; exact ⟨_, none, by simp [pval, hx], .inl rfl, h⟩
    · cases h
  · rename_i x
    rw [evK_eq] at h
    unfold chkK at h
    split at h
    · rename_i i f hx; exact ⟨_, none, by simp [pval, hx], .inl rfl, h⟩
    · rename_i i e j f hx; exact ⟨_, none, by simp [pval, hx], .inl rfl, h⟩
    · rename_i f a b hx; exact ⟨_, none, by simp [pval, hx], .inl rfl, h⟩
    · cases h
  · rename_i esz x i
    rw [evK_eq, evK_eq] at h
    unfold iadK at h
    split at h
    · rename_i id e s n c hx
      split at h
      · rename_i kd j hi
        split at h
        · rename_i h1
          split at h
          · rename_i h2
            rw [fN_eq] at h
            refine ⟨_, some true, ?_, .inr rfl, h⟩
            rw [Nat.blt_eq] at h2
            simp only [pval, hx, hi, unO, h1]
            have : o0.inb (Int.ofNat j) n = true := by
              show decide _ = true
              simp; omega
            rw [this]
            rfl
          · cases h
        · cases h
      · cases h
    · cases h
  · rename_i off n agg x
    rw [evK_eq] at h
    unfold fldK at h
    split at h
    · rename_i cs hx
      split at h
      · rename_i l hl
        split at h
        · rename_i v hv
          rw [fV_eq] at h
          exact ⟨v, none, by simp [pval, hx, hl, hv], .inl rfl, h⟩
        · cases h
      · cases h
    · cases h
  · exact pvK_ok h

/-! Loads. -/
def cellK {β : Type} (cs : List VV) (off n : Nat) (agg : Bool) (k : VV → Option β) : Option β :=
  match agg with
  | false => match Nat.beq n 1 with
    | true => nthO cs off k
    | false => none
  | true => match rdn cs off n with
    | some l => fL l fun l => k (.agg l)
    | none => none
theorem rdn_one : ∀ (cs : List VV) (off : Nat) (a : VV), lget cs off = some a → rdn cs off 1 = some [a]
  | [], off, a, h => by simp [lget] at h
  | b :: l, 0, a, h => by simp [lget] at h; subst h; simp [rdn]
  | b :: l, off + 1, a, h => by
    have := rdn_one l off a (by simpa [lget] using h)
    simpa [rdn] using this
theorem cellK_ok {β : Type} {cs : List VV} {off n : Nat} {agg : Bool} {k : VV → Option β} {r : β} (h : cellK cs off n agg k = some r) : ∃ l v, rdn cs off n = some l ∧ pack agg l = some v ∧ k v = some r := by
  unfold cellK at h
  split at h
  · split at h
    · rename_i hn
      have := Nat.eq_of_beq_eq_true hn
      subst this
      obtain ⟨a, h1, h2⟩ := nthO_some h
      exact ⟨[a], a, rdn_one _ _ _ h1, rfl, h2⟩
    · cases h
  · split at h
    · rename_i l hl; rw [fL_eq] at h; exact ⟨l, _, hl, rfl, h⟩
    · cases h
def ldB {β : Type} (n : Nat) (agg : Bool) (e j off : Nat) (b : VB) (k : VV → Option β) : Option β :=
  match b with
  | .arr e' xs _ => match Nat.beq e e' with
    | true => nthO xs j fun cs => cellK cs off n agg k
    | false => none
  | _ => none
def ldC {β : Type} (n : Nat) (agg : Bool) (off : Nat) (b : VB) (k : VV → Option β) : Option β :=
  match b with
  | .cells cs => cellK cs off n agg k
  | _ => none
def ldK {β : Type} (n : Nat) (agg : Bool) (p : VV) (V : List VB) (k : VV → Option β) : Option β :=
  match p with
  | .ptr i off => nthO V i fun b => ldC n agg off b k
  | .elt i e j off => nthO V i fun b => ldB n agg e j off b k
  | _ => none
theorem ldK_ok {β : Type} {n : Nat} {agg : Bool} {p : VV} {V : List VB} {k : VV → Option β} {r : β} (h : ldK n agg p V k = some r) : ∃ v, ldAt o0 p n agg V = some v ∧ k v = some r := by
  unfold ldK at h
  split at h
  · obtain ⟨b, h1, h2⟩ := nthO_some h
    unfold ldC at h2
    split at h2
    · obtain ⟨l, v, g1, g2, g3⟩ := cellK_ok h2
      exact ⟨v, by simp [ldAt, h1, g1, g2], g3⟩
    · cases h2
  · obtain ⟨b, h1, h2⟩ := nthO_some h
    unfold ldB at h2
    split at h2
    · split at h2
      · rename_i hb
        obtain ⟨cs, h3, h4⟩ := nthO_some h2
        obtain ⟨l, v, g1, g2, g3⟩ := cellK_ok h4
        refine ⟨v, ?_, g3⟩
        rw [lget_eq] at h3
        simp only [ldAt, h1, hb]
        rw [show o0.get _ _ = _ from h3]
        simp [g1, g2]
      · cases h2
    · cases h2
  · cases h
theorem lval_ld (n : Nat) (g : Bool) (a : Rd) (env : Env) (V : List VB) : lval o0 (.ld n g a) env V = ldAt o0 (a.ev env) n g V := rfl

/-! Effects. -/
def cellsK {β : Type} (v : VV) (k : List VV → Option β) : Option β :=
  match v with
  | .agg cs => k cs
  | .tup _ => none
  | .raw _ => none
  | v => k [v]
theorem cellsK_ok {β : Type} {v : VV} {k : List VV → Option β} {r : β} (h : cellsK v k = some r) : k v.cells = some r := by
  unfold cellsK at h
  split at h
  · exact h
  · cases h
  · cases h
  · rename_i h1 h2 h3
    cases v <;> first | exact h | exact absurd rfl (h1 _) | exact absurd rfl (h3 _)
def wrK {β : Type} (cs : List VV) (off : Nat) (xs : List VV) (k : List VV → Option β) : Option β :=
  match xs with
  | [x] => setO cs off x k
  | xs => match wrn cs off xs with
    | some cs' => fL cs' k
    | none => none
theorem wrn_one : ∀ (cs : List VV) (off : Nat) (x : VV), off < cs.length → wrn cs off [x] = some (lset cs off x)
  | [], off, x, h => by simp at h
  | a :: l, 0, x, h => by simp [wrn, lset]
  | a :: l, off + 1, x, h => by
    have := wrn_one l off x (by simpa using h)
    simp [wrn, lset, this]
theorem wrK_ok {β : Type} {cs : List VV} {off : Nat} {xs : List VV} {k : List VV → Option β} {r : β} (h : wrK cs off xs k = some r) : ∃ cs', wrn cs off xs = some cs' ∧ k cs' = some r := by
  unfold wrK at h
  split at h
  · obtain ⟨h1, h2⟩ := setO_some h
    exact ⟨_, wrn_one _ _ _ h1, h2⟩
  · split at h
    · rename_i cs' hc; rw [fL_eq] at h; exact ⟨cs', hc, h⟩
    · cases h
def stC {β : Type} (off : Nat) (b : VB) (xs : List VV) (k : VB → Option β) : Option β :=
  match b with
  | .cells cs => wrK cs off xs fun cs => k (.cells cs)
  | _ => none
def stB {β : Type} (e j off : Nat) (b : VB) (xs : List VV) (k : VB → Option β) : Option β :=
  match b with
  | .arr e' ys tot => match Nat.beq e e' with
    | true => nthO ys j fun cs => wrK cs off xs fun cs' => setO ys j cs' fun ys => k (.arr e' ys tot)
    | false => none
  | _ => none
def stP {β : Type} (p : VV) (V : List VB) (xs : List VV) (k : List VB → Option β) : Option β :=
  match p with
  | .ptr i off => nthO V i fun b => stC off b xs fun b => setO V i b k
  | .elt i e j off => nthO V i fun b => stB e j off b xs fun b => setO V i b k
  | _ => none
def stK {β : Type} (n : Nat) (p v : VV) (V : List VB) (k : VV → List VB → Option β) : Option β :=
  cellsK v fun xs => match Nat.beq (llen xs) n with
    | true => match allOne xs with
      | true => stP p V xs fun V => k vundef V
      | false => none
    | false => none
theorem stP_ok {β : Type} {p : VV} {V : List VB} {v : VV} {k : List VB → Option β} {r : β} {call : CallF} {n : Nat} {a w : Rd} {env : Env} (hp : a.ev env = p) (hv : w.ev env = v) (h1 : Nat.beq (llen v.cells) n = true) (h2 : allOne v.cells = true)
    (h : stP p V v.cells k = some r) : ∃ V', weF call (.st n a w) env V = some (vundef, V') ∧ k V' = some r := by
  subst hv
  simp only [weF, h1, h2, hp]
  unfold stP at h
  split at h
  · obtain ⟨b, g1, g2⟩ := nthO_some h
    unfold stC at g2
    split at g2
    · obtain ⟨cs', g3, g4⟩ := wrK_ok g2
      obtain ⟨_, g5⟩ := setO_some g4
      exact ⟨_, by simp [g1, g3, fL_eq, setK_eq], g5⟩
    · cases g2
  · obtain ⟨b, g1, g2⟩ := nthO_some h
    unfold stB at g2
    split at g2
    · split at g2
      · rename_i hb
        obtain ⟨cs, g3, g4⟩ := nthO_some g2
        obtain ⟨cs', g5, g6⟩ := wrK_ok g4
        obtain ⟨_, g7⟩ := setO_some g6
        obtain ⟨_, g8⟩ := setO_some g7
        exact ⟨_, by simp [g1, g3, g5, hb, fL_eq, setK_eq], g8⟩
      · cases g2
    · cases g2
  · cases h

/-- One operation. -/
def woR {α : Type} (call : CallF) (op : I) (E : List VV) (V : List VB) (k : VV → List VB → Option α) : Option α :=
  match op with
  | .ld n g a => evK E a fun p => ldK n g p V fun v => k v V
  | .st n a v => evK E a fun p => evK E v fun v => stK n p v V k
  | .call f args => evsK E args fun args => match call f args V with
    | some (v, V) => k v V
    | none => none
  | .new zs => fN (lenR V 0) fun L => appR V [.cells zs] fun V => k (.ptr L 0) V
  | .box x => evK E x fun v => cellsK v fun cs => fN (lenR V 0) fun L => appR V [.cells cs] fun V => k (.ptr L 0) V
  | .lit a b c d => woF call (.lit a b c d) (envOf E) V k
  | .mkc a b => woF call (.mkc a b) (envOf E) V k
  | .clen a => woF call (.clen a) (envOf E) V k
  | .mlen a => woF call (.mlen a) (envOf E) V k
  | .cpy a b c => woF call (.cpy a b c) (envOf E) V k
  | .mkm => woF call .mkm (envOf E) V k
  | .mlk a b c d e => woF call (.mlk a b c d e) (envOf E) V k
  | .mup a b c d => woF call (.mup a b c d) (envOf E) V k
  | .mdl a b c => woF call (.mdl a b c) (envOf E) V k
  | .mk a b c d => woF call (.mk a b c d) (envOf E) V k
  | .app a b c d => woF call (.app a b c d) (envOf E) V k
  | .callv a b => woF call (.callv a b) (envOf E) V k
  | .inv a b c => woF call (.inv a b c) (envOf E) V k
  | .iada a b c d => woF call (.iada a b c d) (envOf E) V k
  | op => pureR op E fun v => k v V
theorem woR_ok {α : Type} {call : CallF} {op : I} {E : List VV} {V : List VB} {k : VV → List VB → Option α} {r : α} (h : woR call op E V k = some r) : woF call op (envOf E) V k = some r := by
  unfold woR at h
  split at h
  case h_1 n g a =>
    rw [evK_eq] at h
    obtain ⟨v, h1, h2⟩ := ldK_ok h
    simp only [woF, pval, lval_ld, h1, h2]
  case h_2 n a v =>
    rw [evK_eq, evK_eq] at h
    unfold stK at h
    have h := cellsK_ok h
    split at h
    · rename_i h1
      split at h
      · rename_i h2
        obtain ⟨V', h3, h4⟩ := stP_ok (call := call) rfl rfl h1 h2 h
        simp only [woF, pval, lval, fresh, h3, fV_eq, h4]
      · cases h
    · cases h
  case h_3 f args =>
    rw [evsK_eq] at h
    split at h
    · rename_i v V' h1
      simp only [woF, pval, lval, fresh, weF, fL_eq, h1, fV_eq, h]
    · cases h
  case h_4 zs =>
    rw [fN_eq, appR_eq, lenR_eq, Nat.zero_add] at h
    simp only [woF, pval, lval, fresh, fB_eq, fV_eq, appK_eq, h]
  case h_5 x =>
    rw [evK_eq] at h
    have h := cellsK_ok h
    rw [fN_eq, appR_eq, lenR_eq, Nat.zero_add] at h
    simp only [woF, pval, lval, fresh, fB_eq, fV_eq, appK_eq, h]
  all_goals first
    | exact h
    | (obtain ⟨v, c, h1, h2, h3⟩ := pureR_ok h
       rcases h2 with rfl | rfl <;> simp only [woF, h1, fV_eq, h3])

def putR {α : Type} (E : List VV) (d : Option Nat) (v : VV) (k : List VV → Option α) : Option α :=
  match d with
  | none => k E
  | some d => setO E d v k
theorem putR_ok {α : Type} {E : List VV} {d : Option Nat} {v : VV} {k : List VV → Option α} {r : α} (h : putR E d v k = some r) : putF E d v k = some r := by
  cases d with
  | none => exact h
  | some d =>
    simp only [putR] at h
    obtain ⟨h1, h2⟩ := setO_some h
    simp only [putF]
    have : Nat.blt d (llen E) = true := by rw [Nat.blt_eq, llen_eq]; exact h1
    rw [this, setK_eq]; exact h2
def guB (v : VV) : Option (Option Bool) :=
  match v with
  | .bool b => some (some b)
  | .raw _ => none
  | _ => some none
def runW {α : Type} (call : CallF) (i : IOp) (E : List VV) (V : List VB) (k : List VV → List VB → Option α) : Option α :=
  woR call i.op E V fun v V => putR E i.dst v fun E => k E V
def skipW {α : Type} (i : IOp) (E : List VV) (V : List VB) (k : List VV → List VB → Option α) : Option α := putR E i.dst vundef fun E => k E V
def wostR {α : Type} (call : CallF) (i : IOp) (E : List VV) (V : List VB) (k : List VV → List VB → Option α) : Option α :=
  match i.guard with
  | none => runW call i E V k
  | some (g, want) => nthK E g fun v => match guB v with
    | some (some b) => match b with
      | true => match want with
        | true => runW call i E V k
        | false => skipW i E V k
      | false => match want with
        | true => skipW i E V k
        | false => runW call i E V k
    | some none => skipW i E V k
    | none => none
theorem woF_mono {α : Type} {call : CallF} {op : I} {env : Env} {V : List VB} {k k' : VV → List VB → Option α} {r : α} (hk : ∀ v V, k v V = some r → k' v V = some r) (h : woF call op env V k = some r) : woF call op env V k' = some r := by
  unfold woF at h ⊢
  split at h
  · rename_i v h1; (try simp only [h1]); rw [fV_eq] at h ⊢; exact hk _ _ h
  · rename_i v b h1; (try simp only [h1])
    cases b
    · cases h
    · simp only [fV_eq] at h ⊢; exact hk _ _ h
  · rename_i h1; (try simp only [h1])
    split at h
    · rename_i v h2; (try simp only [h2]); exact hk _ _ h
    · rename_i h2; (try simp only [h2])
      split at h
      · rename_i vb v h3; (try simp only [h3]); rw [fB_eq, fV_eq, appK_eq] at h ⊢; exact hk _ _ h
      · rename_i vb v b h3; (try simp only [h3])
        cases b
        · cases h
        · simp only [fB_eq, fV_eq, appK_eq] at h ⊢; exact hk _ _ h
      · rename_i h3; (try simp only [h3])
        split at h
        · rename_i v V' h4; (try simp only [h4]); rw [fV_eq] at h ⊢; exact hk _ _ h
        · cases h
theorem wostR_ok {α : Type} {call : CallF} {i : IOp} {E : List VV} {V : List VB} {k : List VV → List VB → Option α} {r : α} (h : wostR call i E V k = some r) : wostF call i E V k = some r := by
  have run : runW call i E V k = some r → woF call i.op (envOf E) V (fun v V => putF E i.dst v fun E => k E V) = some r := fun h =>
    woF_mono (fun v V h => putR_ok h) (woR_ok h)
  have skp : skipW i E V k = some r → putF E i.dst vundef (fun E => k E V) = some r := fun h => putR_ok h
  unfold wostR at h
  unfold wostF
  split at h
  · rename_i h1; simp only [h1]; exact run h
  · rename_i g want h1; simp only [h1]
    rw [nthK_eq] at h
    generalize envOf E g = u at h ⊢
    cases u <;> simp only [guB] at h ⊢
    case bool b => cases b <;> cases want <;> simp only at h ⊢ <;> first | exact run h | exact skp h
    case raw x => cases h
    all_goals exact skp h
def wopsR {α : Type} (call : CallF) (k : List VV → List VB → Option α) (l : List IOp) : List VV → List VB → Option α :=
  List.rec (motive := fun _ => List VV → List VB → Option α) k (fun i _ ih E V => wostR call i E V ih) l
theorem wostF_mono {α : Type} {call : CallF} {i : IOp} {E : List VV} {V : List VB} {k k' : List VV → List VB → Option α} {r : α} (hk : ∀ E V, k E V = some r → k' E V = some r) (h : wostF call i E V k = some r) : wostF call i E V k' = some r := by
  have pt : ∀ {v : VV} {V : List VB}, putF E i.dst v (fun E => k E V) = some r → putF E i.dst v (fun E => k' E V) = some r := by
    intro v V h
    unfold putF at h ⊢
    split at h
    · exact hk _ _ h
    · split at h
      · rename_i hb; rw [setK_eq] at h; (try simp only [hb, setK_eq]); exact hk _ _ h
      · cases h
  unfold wostF at h ⊢
  split at h
  · rename_i h1; (try simp only [h1]); exact woF_mono (fun v V h => pt h) h
  · rename_i g want h1; (try simp only [h1])
    split at h
    · rename_i b h2; (try simp only [h2])
      cases b <;> cases want <;> simp only at h ⊢ <;> first | exact pt h | exact woF_mono (fun v V h => pt h) h
    · cases h
    · exact pt h
theorem wopsR_ok {α : Type} {call : CallF} {k : List VV → List VB → Option α} {r : α} : ∀ {l : List IOp} {E : List VV} {V : List VB}, wopsR call k l E V = some r → wopsF call l E V k = some r
  | [], E, V, h => h
  | i :: l, E, V, h => by
    simp only [wopsF]
    have h2 : wostR call i E V (wopsR call k l) = some r := h
    exact wostF_mono (fun E V h => wopsR_ok h) (wostR_ok h2)

/-! Regions that draw. -/
def qR {α : Type} (s : DS) (pins : List Pin) (E : List VV) (V : List VB) (k : List Pin → List VV → List VB → Option α) : Option α :=
  match s.io.op with
  | .ld n g a => evK E a fun p => ldK n g p V fun v => putR E s.io.dst v fun E => k (⟨s.j, p, n, g, v⟩ :: pins) E V
  | op => pureR op E fun v => putR E s.io.dst v fun E => k pins E V
def eR {α : Type} (call : CallF) (s : DS) (pins : List Pin) (E : List VV) (V : List VB) (k : List Pin → List VV → List VB → Option α) : Option α :=
  woR call s.io.op E V fun v V => match pinsB (keepPins s.io.after pins) V with
    | true => putR E s.io.dst v fun E => k (keepPins s.io.after pins) E V
    | false => none
def wdexR {α : Type} (call : CallF) (s : DS) (pins : List Pin) (E : List VV) (V : List VB) (k : List Pin → List VV → List VB → Option α) : Option α :=
  match s.k with
  | .q => qR s pins E V k
  | _ => eR call s pins E V k
theorem wdexR_ok {α : Type} {call : CallF} {s : DS} {pins : List Pin} {E : List VV} {V : List VB} {k : List Pin → List VV → List VB → Option α} {r : α} (h : wdexR call s pins E V k = some r) : wdexF call s pins E V k = some r := by
  have eff : eR call s pins E V k = some r → woF call s.io.op (envOf E) V (fun v V => match pinsB (keepPins s.io.after pins) V with | true => putF E s.io.dst v fun E => k (keepPins s.io.after pins) E V | false => none) = some r := by
    intro h
    refine woF_mono (fun v V h => ?_) (woR_ok h)
    split at h
    · exact putR_ok h
    · cases h
  unfold wdexR at h
  unfold wdexF
  cases hs : s.k <;> simp only [hs] at h ⊢
  · unfold qR at h
    split at h
    · rename_i n g a hop
      rw [evK_eq] at h
      obtain ⟨v, h1, h2⟩ := ldK_ok h
      simp only [hop, pval, lval_ld, h1, mkPin]
      exact putR_ok h2
    · obtain ⟨v, c, h1, h2, h3⟩ := pureR_ok h
      rcases h2 with rfl | rfl <;> simp only [h1, fV_eq] <;> exact putR_ok h3
  · exact eff h
  · exact eff h
def wdskR {α : Type} (s : DS) (pins : List Pin) (E : List VV) (V : List VB) (k : List Pin → List VV → List VB → Option α) : Option α :=
  putR E s.io.dst vundef fun E => k (match s.k with | .q => pins | _ => keepPins s.io.after pins) E V
def wdstR {α : Type} (call : CallF) (s : DS) (pins : List Pin) (E : List VV) (V : List VB) (k : List Pin → List VV → List VB → Option α) : Option α :=
  match s.io.guard with
  | none => wdexR call s pins E V k
  | some (g, want) => nthK E g fun v => match guB v with
    | some (some b) => match b with
      | true => match want with
        | true => wdexR call s pins E V k
        | false => wdskR s pins E V k
      | false => match want with
        | true => wdskR s pins E V k
        | false => wdexR call s pins E V k
    | some none => wdskR s pins E V k
    | none => none
theorem wdstR_ok {α : Type} {call : CallF} {s : DS} {pins : List Pin} {E : List VV} {V : List VB} {k : List Pin → List VV → List VB → Option α} {r : α} (h : wdstR call s pins E V k = some r) : wdstF call s pins E V k = some r := by
  have skp : wdskR s pins E V k = some r → wdskF s pins E V k = some r := fun h => putR_ok h
  unfold wdstR at h
  unfold wdstF
  split at h
  · rename_i h1; simp only [h1]; exact wdexR_ok h
  · rename_i g want h1; simp only [h1]
    rw [nthK_eq] at h
    generalize envOf E g = u at h ⊢
    cases u <;> simp only [guB] at h ⊢
    case bool b => cases b <;> cases want <;> simp only at h ⊢ <;> first | exact wdexR_ok h | exact skp h
    case raw x => cases h
    all_goals exact skp h
theorem wdstF_mono {α : Type} {call : CallF} {s : DS} {pins : List Pin} {E : List VV} {V : List VB} {k k' : List Pin → List VV → List VB → Option α} {r : α} (hk : ∀ p E V, k p E V = some r → k' p E V = some r) (h : wdstF call s pins E V k = some r) : wdstF call s pins E V k' = some r := by
  have pt : ∀ {p : List Pin} {v : VV} {V : List VB}, putF E s.io.dst v (fun E => k p E V) = some r → putF E s.io.dst v (fun E => k' p E V) = some r := by
    intro p v V h
    unfold putF at h ⊢
    split at h
    · exact hk _ _ _ h
    · split at h
      · rename_i hb; rw [setK_eq] at h; (try simp only [hb, setK_eq]); exact hk _ _ _ h
      · cases h
  have ex : wdexF call s pins E V k = some r → wdexF call s pins E V k' = some r := by
    intro h
    have eff : woF call s.io.op (envOf E) V (fun v V => match pinsB (keepPins s.io.after pins) V with | true => putF E s.io.dst v fun E => k (keepPins s.io.after pins) E V | false => none) = some r →
        woF call s.io.op (envOf E) V (fun v V => match pinsB (keepPins s.io.after pins) V with | true => putF E s.io.dst v fun E => k' (keepPins s.io.after pins) E V | false => none) = some r := by
      intro h
      refine woF_mono (fun v V h => ?_) h
      split at h
      · rename_i hp; (try simp only [hp]); exact pt h
      · cases h
    unfold wdexF at h ⊢
    cases hs : s.k <;> simp only [hs] at h ⊢
    · split at h
      · rename_i v h1; (try simp only [h1]); rw [fV_eq] at h ⊢; exact pt h
      · rename_i v b h1; (try simp only [h1])
        cases b
        · cases h
        · simp only [fV_eq] at h ⊢; exact pt h
      · rename_i h1; (try simp only [h1])
        split at h
        · rename_i v h2; (try simp only [h2])
          split at h
          · rename_i pin h3; (try simp only [h3]); exact pt h
          · cases h
        · cases h
    · exact eff h
    · exact eff h
  unfold wdstF at h ⊢
  split at h
  · rename_i h1; (try simp only [h1]); exact ex h
  · rename_i g want h1; (try simp only [h1])
    split at h
    · rename_i b h2; (try simp only [h2])
      cases b <;> cases want <;> simp only at h ⊢ <;> first | exact ex h | exact pt h
    · cases h
    · exact pt h
/-- May what is drawn in any place be drawn here? Asked only where there is such. -/
def anyF : List DS → Bool
  | [] => false
  | s :: l => match s.k with
    | .f => true
    | _ => anyF l
theorem earlyB_none {env : Env} {n : Nat} {js : List Nat} : ∀ {l : List DS}, anyF l = false → earlyB o0 env n js l = true
  | [], _ => rfl
  | s :: l, h => by
    simp only [anyF] at h
    simp only [earlyB]
    cases hs : s.k <;> simp only [hs] at h ⊢
    · exact earlyB_none h
    · exact earlyB_none h
    · cases h
def earlyR (E : List VV) (V : List VB) (s : DS) (l : List DS) : Bool :=
  match anyF l with
  | false => true
  | true => earlyB o0 (envOf E) (llen V) (s.j :: jsOf l) l
theorem earlyR_ok {E : List VV} {V : List VB} {s : DS} {l : List DS} (h : earlyR E V s l = true) : earlyB o0 (envOf E) (llen V) (s.j :: jsOf l) l = true := by
  unfold earlyR at h
  split at h
  · rename_i h1; exact earlyB_none h1
  · exact h
def isQ (s : DS) : Bool := match s.k with | .q => true | _ => false
def wdrR {α : Type} (call : CallF) (k : List VV → List VB → Option α) (l : List DS) : List Pin → List VV → List VB → Option α :=
  List.rec (motive := fun _ => List Pin → List VV → List VB → Option α) (fun _ => k) (fun s l ih pins E V => match isQ s with
    | true => wdstR call s pins E V ih
    | false => match earlyR E V s l with
      | true => wdstR call s pins E V ih
      | false => none) l
theorem wdrR_ok {α : Type} {call : CallF} {k : List VV → List VB → Option α} {r : α} : ∀ {l : List DS} {pins : List Pin} {E : List VV} {V : List VB}, wdrR call k l pins E V = some r → wdrF call l pins E V k = some r
  | [], _, E, V, h => h
  | s :: l, pins, E, V, h => by
    have h2 : (match isQ s with
      | true => wdstR call s pins E V (wdrR call k l)
      | false => match earlyR E V s l with
        | true => wdstR call s pins E V (wdrR call k l)
        | false => none) = some r := h
    simp only [wdrF]
    unfold isQ at h2
    cases hs : s.k <;> simp only [hs] at h2 ⊢
    · exact wdstF_mono (fun p E V h => wdrR_ok h) (wdstR_ok h2)
    · split at h2
      · rename_i he; simp only [earlyR_ok he]; exact wdstF_mono (fun p E V h => wdrR_ok h) (wdstR_ok h2)
      · cases h2
    · split at h2
      · rename_i he; simp only [earlyR_ok he]; exact wdstF_mono (fun p E V h => wdrR_ok h) (wdstR_ok h2)
      · cases h2

abbrev Body := List VV → List VB → Option Out
def seqR (a b : Body) : Body := fun E V => match a E V with
  | some (x, E, V) => match x with
    | .normal => b E V
    | x => some (x, E, V)
  | none => none
def condR (c : Rd) (a b : Body) : Body := fun E V => evK E c fun v => match v with
  | .bool t => match t with
    | true => a E V
    | false => b E V
  | _ => none
def blockR (id : Nat) (b : Body) : Body := fun E V => match b E V with
  | some (x, E, V) => match x with
    | .exit i => match Nat.beq i id with
      | true => some (.normal, E, V)
      | false => some (.exit i, E, V)
    | x => some (x, E, V)
  | none => none
def iterR (body : Body) (n : Nat) : Body :=
  Nat.rec (motive := fun _ => Body) (fun _ _ => none) (fun _ ih E V => match body E V with
    | some (x, E, V) => match x with
      | .normal => ih E V
      | x => some (x, E, V)
    | none => none) n
def runR (call : CallF) (fl : Nat) (c : IC) : Body :=
  IC.rec (motive := fun _ => Body) (fun E V => some (.normal, E, V)) (fun l => wopsR call (fun E V => some (.normal, E, V)) l) (fun l => wdrR call (fun E V => some (.normal, E, V)) l [])
    (fun _ _ a b => seqR a b) (fun c _ _ a b => condR c a b) (fun id _ b => blockR id b) (fun _ b => iterR b fl) (fun i E V => some (.exit i, E, V)) (fun E V => some (.ret, E, V)) (fun E V => some (.normal, E, V)) c
theorem iterR_ok {body body' : Body} (hb : ∀ E V r, body E V = some r → body' E V = some r) : ∀ {n : Nat} {E : List VV} {V : List VB} {r : Out}, iterR body n E V = some r → iterF body' n E V = some r
  | 0, E, V, r, h => by cases h
  | n + 1, E, V, r, h => by
    have h2 : (match body E V with
      | some (x, E, V) => match x with
        | .normal => iterR body n E V
        | x => some (x, E, V)
      | none => none) = some r := h
    simp only [iterF]
    split at h2
    · rename_i x E1 V1 h3
      simp only [hb _ _ _ h3]
      cases x <;> simp only at h2 ⊢
      · exact iterR_ok hb h2
      · exact h2
      · exact h2
    · cases h2
theorem runR_ok {call : CallF} {fl : Nat} : ∀ {c : IC} {E : List VV} {V : List VB} {r : Out}, runR call fl c E V = some r → runI call fl c E V = some r
  | .skip, E, V, r, h => h
  | .region l, E, V, r, h => wopsR_ok h
  | .draw l, E, V, r, h => wdrR_ok h
  | .seq a b, E, V, r, h => by
    have h2 : seqR (runR call fl a) (runR call fl b) E V = some r := h
    unfold seqR at h2
    simp only [runI]
    split at h2
    · rename_i x E1 V1 h3
      simp only [runR_ok h3]
      cases x <;> simp only at h2 ⊢
      · exact runR_ok h2
      · exact h2
      · exact h2
    · cases h2
  | .cond c a b, E, V, r, h => by
    have h2 : condR c (runR call fl a) (runR call fl b) E V = some r := h
    unfold condR at h2
    rw [evK_eq] at h2
    simp only [runI]
    split at h2
    · rename_i t h3
      simp only [h3]
      cases t <;> simp only at h2 ⊢ <;> exact runR_ok h2
    · cases h2
  | .block id b, E, V, r, h => by
    have h2 : blockR id (runR call fl b) E V = some r := h
    unfold blockR at h2
    simp only [runI]
    split at h2
    · rename_i x E1 V1 h3
      simp only [runR_ok h3]
      exact h2
    · cases h2
  | .loop b, E, V, r, h => by
    have h2 : iterR (runR call fl b) fl E V = some r := h
    simp only [runI]
    exact iterR_ok (fun E V r h => runR_ok h) h2
  | .exit i, E, V, r, h => h
  | .ret, E, V, r, h => h
  | .label, E, V, r, h => h

def retR (E : List VV) (V : List VB) (rv : List RV) : Option (VV × List VB) :=
  match resVal o0 (envOf E) V rv with
  | some l => fL l fun l => match l with
    | [v] => some (v, V)
    | l => some (.tup l, V)
  | none => none
def entR (call : CallF) (fl : Nat) (e : Ent) (args : List VV) (V : List VB) : Option (VV × List VB) :=
  match Nat.ble (llen args) e.n with
  | true => fL (padF args e.n) fun E => match runR call fl e.c E V with
    | some (x, E, V) => match x with
      | .exit _ => none
      | _ => retR E V e.rv
    | none => none
  | false => none
/-! What a call leaves behind that nobody names is forgotten. -/
def okC (n : Nat) : Cap → Bool
  | .n _ => true
  | .v c => Nat.blt c n
mutual
def okV (n : Nat) : VV → Bool
  | .ptr i _ => Nat.blt i n
  | .elt i _ _ _ => Nat.blt i n
  | .sl i _ _ _ c => Nat.blt i n && okC n c
  | .map i => Nat.blt i n
  | .chan i => Nat.blt i n
  | .fn _ a b => okL n a && okL n b
  | .iface _ v => okV n v
  | .agg cs => okL n cs
  | .tup cs => okL n cs
  | .osl (some i) _ _ _ _ => Nat.blt i n
  | _ => true
def okL (n : Nat) : List VV → Bool
  | [] => true
  | v :: l => okV n v && okL n l
end
def okF (n : Nat) (v : VV) : Bool :=
  match v with
  | .int _ _ => true
  | .bool _ => true
  | v => okV n v
def okLF (n : Nat) (l : List VV) : Bool := List.rec (motive := fun _ => Bool) true (fun v _ ih => match okF n v with | true => ih | false => false) l
def okLL (n : Nat) (l : List (List VV)) : Bool := List.rec (motive := fun _ => Bool) true (fun v _ ih => match okLF n v with | true => ih | false => false) l
def okB (n : Nat) (b : VB) : Bool :=
  match b with
  | .cells cs => okLF n cs
  | .arr _ xs t => match okC n t with
    | true => okLL n xs
    | false => false
  | .chan _ xs => okLF n xs
  | .map ks vs => match okLF n ks with
    | true => okLF n vs
    | false => false
  | .ro _ xs => okLL n xs
  | _ => true
def okVs (n : Nat) (l : List VB) (m : Nat) : Bool :=
  List.rec (motive := fun _ => Nat → Bool) (fun m => Nat.beq m 0) (fun b _ ih m => Nat.rec (motive := fun _ => Bool) true (fun m _ => match okB n b with | true => ih m | false => false) m) l m
section
variable {ρ : Nat → Nat} {n : Nat} (hρ : ∀ i, i < n → ρ i = i)
include hρ
theorem okC_rn {c : Cap} (h : okC n c = true) : c.rn ρ = c := by
  cases c with
  | n k => rfl
  | v i => simp only [okC, Nat.blt_eq] at h; simp only [Cap.rn, hρ i h]
mutual
theorem okV_rn : ∀ (v : VV), okV n v = true → rn ρ v = v
  | .ptr i _, h | .elt i _ _ _, h | .map i, h | .chan i, h => by simp only [okV, Nat.blt_eq] at h; simp only [rn, hρ i h]
  | .sl i _ _ _ c, h => by
    simp only [okV, Bool.and_eq_true, Nat.blt_eq] at h
    simp only [rn, hρ i h.1, okC_rn hρ h.2]
  | .fn f a b, h => by
    simp only [okV, Bool.and_eq_true] at h
    simp only [rn, okL_rn a h.1, okL_rn b h.2]
  | .iface t v, h => by
    simp only [okV] at h
    simp only [rn, okV_rn v h]
  | .agg cs, h => by
    simp only [okV] at h
    simp only [rn, okL_rn cs h]
  | .tup cs, h => by
    simp only [okV] at h
    simp only [rn, okL_rn cs h]
  | .osl oid _ _ _ _, h => by
    cases oid with
    | none => rfl
    | some i => simp only [okV, Nat.blt_eq] at h; simp only [rn, hρ i h]
  | .int _ _, _ | .bool _, _ | .str _, _ | .nilPtr, _ | .nilSl, _ | .nilMap, _ | .nilChan, _ | .nilFn, _ | .nilIface, _ | .raw _, _ => by simp only [rn]
theorem okL_rn : ∀ (l : List VV), okL n l = true → rnL ρ l = l
  | [], _ => rfl
  | v :: l, h => by
    simp only [okL, Bool.and_eq_true] at h
    simp only [rnL, okV_rn v h.1, okL_rn l h.2]
end
theorem okF_rn {v : VV} (h : okF n v = true) : rn ρ v = v := by
  unfold okF at h
  split at h
  · rfl
  · rfl
  · exact okV_rn hρ v h
theorem okLF_rn : ∀ {l : List VV}, okLF n l = true → rnL ρ l = l
  | [], _ => rfl
  | v :: l, h => by
    have h2 : (match okF n v with | true => okLF n l | false => false) = true := h
    split at h2
    · rename_i h1; simp only [rnL, okF_rn hρ h1, okLF_rn h2]
    · cases h2
theorem okLL_rn : ∀ {l : List (List VV)}, okLL n l = true → l.map (rnL ρ) = l
  | [], _ => rfl
  | v :: l, h => by
    have h2 : (match okLF n v with | true => okLL n l | false => false) = true := h
    split at h2
    · rename_i h1; simp only [List.map_cons, okLF_rn hρ h1, okLL_rn h2]
    · cases h2
theorem okB_rn {b : VB} (h : okB n b = true) : rnB ρ b = b := by
  unfold okB at h
  split at h
  · simp only [rnB, okLF_rn hρ h]
  · split at h
    · rename_i h1; simp only [rnB, okLL_rn hρ h, okC_rn hρ h1]
    · cases h
  · simp only [rnB, okLF_rn hρ h]
  · split at h
    · rename_i h1; simp only [rnB, okLF_rn hρ h, okLF_rn hρ h1]
    · cases h
  · simp only [rnB, okLL_rn hρ h]
  · rename_i h1 h2 h3 h4 h5
    cases b <;> first | rfl | exact absurd rfl (h1 _) | exact absurd rfl (h2 _ _ _) | exact absurd rfl (h3 _ _) | exact absurd rfl (h4 _ _) | exact absurd rfl (h5 _ _)
end
def upTo : Nat → Nat → List Nat
  | _, 0 => []
  | k, n + 1 => k :: upTo (k + 1) n
theorem upTo_mem : ∀ {n k a : Nat}, a ∈ upTo k n → k ≤ a ∧ a < k + n
  | 0, k, a, h => by cases h
  | n + 1, k, a, h => by
    rcases List.mem_cons.1 h with rfl | h
    · omega
    · have := upTo_mem h; omega
theorem upTo_nodup : ∀ (n k : Nat), nodupB (upTo k n) = true
  | 0, _ => rfl
  | n + 1, k => by
    simp only [upTo, nodupB]
    cases hb : hasNat (upTo (k + 1) n) k with
    | true => have := upTo_mem (hasNat_iff.1 hb); omega
    | false => exact upTo_nodup n (k + 1)
theorem upTo_keeps : ∀ (n k : Nat), keeps n k (upTo k n) = true
  | 0, _ => rfl
  | n + 1, k => by simp only [upTo, keeps, Nat.beq_refl]; exact upTo_keeps n (k + 1)
theorem upTo_get : ∀ {n k i : Nat}, i < n → lget (upTo k n) i = some (k + i)
  | 0, _, _, h => by omega
  | n + 1, k, 0, _ => rfl
  | n + 1, k, i + 1, h => by
    simp only [upTo, lget]
    rw [upTo_get (by omega)]; congr 1; omega
theorem rho_upTo {n m i : Nat} (h : i < n) : rho (upTo 0 n) m i = i := by
  unfold rho
  rw [upTo_get h]
  simp
theorem okVs_fit {ρ : Nat → Nat} {n : Nat} (hρ : ∀ i, i < n → ρ i = i) (V0 : List VB) : ∀ {m k : Nat} {l : List VB}, okVs n l m = true → V0.drop k = l → fitB ρ V0 (upTo k m) (l.take m)
  | 0, k, l, _, _ => by simp [upTo, fitB]
  | m + 1, k, [], h, _ => by cases h
  | m + 1, k, b :: l, h, hd => by
    have h2 : (match okB n b with | true => okVs n l m | false => false) = true := h
    split at h2
    · rename_i h1
      simp only [upTo, List.take_succ_cons, fitB]
      refine ⟨.inr ?_, okVs_fit hρ V0 h2 (by rw [← List.drop_drop, hd]; rfl)⟩
      rw [okB_rn hρ h1, lget_eq]
      have := congrArg (fun x => x[0]?) hd
      simpa using this
    · cases h2
def takeR {β : Type} (l : List VB) (n : Nat) (k : List VB → β) : β :=
  List.rec (motive := fun _ => Nat → (List VB → β) → β) (fun _ k => k []) (fun a _ ih n k => Nat.rec (motive := fun _ => β) (k []) (fun m _ => ih m fun l => k (a :: l)) n) l n k
theorem takeR_eq {β : Type} : ∀ (l : List VB) (n : Nat) (k : List VB → β), takeR l n k = k (l.take n)
  | [], n, k => by simp [takeR]
  | a :: l, 0, k => rfl
  | a :: l, n + 1, k => by
    have := takeR_eq l n (fun l => k (a :: l))
    exact this
/-- Behind a call. -/
def gcR (n : Nat) (x : Option (VV × List VB)) : Option (VV × List VB) :=
  match x with
  | some (v, V) => match okF n v with
    | true => match okVs n V n with
      | true => takeR V n fun V => some (v, V)
      | false => some (v, V)
    | false => some (v, V)
  | none => none
theorem gcR_ok {W0 : World} {n : Nat} {v : VV} {V : List VB} {u : VV} {U : List VB} {K : VV → List VB → Prop} (h : gcR n (some (v, V)) = some (u, U)) (hk : K u U) : ReV W0 n K v V := by
  simp only [gcR] at h
  split at h
  · rename_i h1
    split at h
    · rename_i h2
      rw [takeR_eq] at h
      cases h
      have hρ : ∀ i, i < n → rho (upTo 0 n) V.length i = i := fun i hi => rho_upTo hi
      exact ReV.ren (upTo 0 n) v (V.take n) (upTo_keeps n 0) (upTo_nodup n 0) (okF_rn hρ h1).symm (okVs_fit hρ V h2 rfl) hk
    · cases h; exact ReV.id hk
  · cases h; exact ReV.id hk

def callR (call : CallF) (fl : Nat) (e : Ent) (args : List VV) (V : List VB) : Option (VV × List VB) :=
  match e.gc with
  | true => fN (lenR V 0) fun n => gcR n (entR call fl e args V)
  | false => entR call fl e args V
def oneR (tab : List (Option Ent)) (call : CallF) (fl : Nat) : CallF := fun f args V =>
  nthO tab f fun e => match e with
    | some e => callR call fl e args V
    | none => none
/-- A call, computed. -/
def goR (tab : List (Option Ent)) (fl : Nat) (n : Nat) : CallF :=
  Nat.rec (motive := fun _ => CallF) (fun _ _ _ => none) (fun _ ih => oneR tab ih fl) n
theorem entR_ok {P : Program} {W0 : World} {call : CallF} {fl : Nat} {f : FuncId} {e : Ent} {args : List VV} {V : List VB} {v : VV} {V' : List VB} {K : VV → List VB → Prop} (hcall : CallOk (Ev P W0) call) (hent : EntOk P W0 f e)
    (h : entR call fl e args V = some (v, V')) (hk : K v V') : Ev P W0 f args V K := by
  unfold entR at h
  split at h
  · rename_i hb
    rw [llen_eq] at hb
    rw [fL_eq] at h
    refine hent args V K hb fun o => ?_
    rw [← envOf_pad args e.n]
    split at h
    · rename_i x E1 V1 h1
      refine runI_ok hcall (fun K env V hk φ h w a hE hR => ⟨env, V, φ, h, hk, Phi.leN.refl _ _, hR, hE, Fr.refl _ _⟩) (runR_ok h1) ?_
      have fin : retR E1 V1 e.rv = some (v, V') → (match resVal o (envOf E1) V1 e.rv with | some [v] => K v V1 | some l => K (.tup l) V1 | none => False) := by
        intro h
        unfold retR at h
        rw [resVal_o o]
        generalize resVal o0 (envOf E1) V1 e.rv = r at h ⊢
        match r, h with
        | some [u], h => simp only [fL_eq] at h; cases h; exact hk
        | some [], h => simp only [fL_eq] at h; cases h; exact hk
        | some (a :: b :: l), h => simp only [fL_eq] at h; cases h; exact hk
        | none, h => cases h
      unfold retK
      cases x <;> simp only at h ⊢
      · exact fin h
      · cases h
      · exact fin h
    · cases h
  · cases h
theorem goR_ok {P : Program} {W0 : World} {tab : List (Option Ent)} (ht : TabOk P W0 0 tab) {fl : Nat} : ∀ n : Nat, CallOk (Ev P W0) (goR tab fl n)
  | 0, f, args, V, v, V', K, h, hk => by cases h
  | n + 1, f, args, V, v, V', K, h, hk => by
    have h : oneR tab (goR tab fl n) fl f args V = some (v, V') := h
    unfold oneR at h
    obtain ⟨e, he, h⟩ := nthO_some h
    cases e with
    | none => cases h
    | some e =>
      simp only at h
      unfold callR at h
      have hent := ht.get he
      rw [Nat.zero_add] at hent
      split at h
      · rw [fN_eq, lenR_eq, Nat.zero_add, llen_eq] at h
        refine Ev.re ?_
        cases hx : entR (goR tab fl n) fl e args V with
        | none => rw [hx] at h; cases h
        | some r =>
          rw [hx] at h
          exact entR_ok (goR_ok ht n) hent hx (gcR_ok h hk)
      · exact entR_ok (goR_ok ht n) hent h hk
/-- A closed call: what it comes to is computed. -/
theorem Ev.go {P : Program} {W0 : World} {tab : List (Option Ent)} (ht : TabOk P W0 0 tab) {fl n : Nat} {f : FuncId} {args : List VV} {V : List VB} {v : VV} {V' : List VB} (h : goR tab fl n f args V = some (v, V')) :
    Ev P W0 f args V (fun u U => u = v ∧ U = V') := goR_ok ht n f args V v V' _ h ⟨rfl, rfl⟩
def isT : Option (VV × List VB) → Bool
  | some (.bool true, _) => true
  | _ => false
/-- A closed call that tells true. -/
theorem Ev.yes {P : Program} {W0 : World} {tab : List (Option Ent)} (ht : TabOk P W0 0 tab) {fl n : Nat} {f : FuncId} {args : List VV} {V : List VB} (h : isT (goR tab fl n f args V) = true) :
    Ev P W0 f args V (fun u _ => u = .bool true) := by
  unfold isT at h
  split at h
  · rename_i b hb; exact goR_ok ht n f args V _ _ _ hb rfl
  · cases h
/-- A closed call that tells true; nothing of what it made is kept. -/
theorem Ev.yes0 {P : Program} {W0 : World} {tab : List (Option Ent)} (ht : TabOk P W0 0 tab) {fl n : Nat} {f : FuncId} (h : isT (goR tab fl n f [] []) = true) :
    Ev P W0 f [] [] (fun u U => u = .bool true ∧ U = []) := by
  unfold isT at h
  split at h
  · rename_i b hb; exact Ev.re (goR_ok ht n f [] [] _ _ _ hb (ReV.none rfl ⟨rfl, rfl⟩))
  · cases h
end
end Go.SL
