/- A run of closed code: the executor's condition, computed. -/
import Derived.Test.YtmkoagmnkogeoaaSLp
set_option linter.unusedVariables false
set_option linter.unusedSimpArgs false
set_option linter.unusedSectionVars false
namespace Go.SL

/-! Values laid bare, so that what is kept is small. -/
section
variable {α : Type}
def fN (n : Nat) (k : Nat → α) : α := Nat.rec (k 0) (fun m _ => k (Nat.succ m)) n
theorem fN_eq (n : Nat) (k : Nat → α) : fN n k = k n := by cases n <;> rfl
def fI : Int → (Int → α) → α
  | .ofNat n, k => fN n fun n => k (.ofNat n)
  | .negSucc n, k => fN n fun n => k (.negSucc n)
theorem fI_eq (n : Int) (k : Int → α) : fI n k = k n := by cases n <;> simp [fI, fN_eq]
def fBo : Bool → (Bool → α) → α
  | true, k => k true
  | false, k => k false
theorem fBo_eq (b : Bool) (k : Bool → α) : fBo b k = k b := by cases b <;> rfl
def fKd : IntKind → (IntKind → α) → α
  | x, k => match x with
    | .i8 => k .i8 | .i16 => k .i16 | .i32 => k .i32 | .i64 => k .i64 | .u8 => k .u8 | .u16 => k .u16 | .u32 => k .u32 | .u64 => k .u64
theorem fKd_eq (b : IntKind) (k : IntKind → α) : fKd b k = k b := by cases b <;> rfl
def fC : Cap → (Cap → α) → α
  | .n c, k => fN c fun c => k (.n c)
  | .v c, k => fN c fun c => k (.v c)
theorem fC_eq (b : Cap) (k : Cap → α) : fC b k = k b := by cases b <;> simp [fC, fN_eq]
mutual
def fV : VV → (VV → α) → α
  | .int kd n, k => fKd kd fun kd => fI n fun n => k (.int kd n)
  | .bool b, k => fBo b fun b => k (.bool b)
  | .ptr i f, k => fN i fun i => fN f fun f => k (.ptr i f)
  | .elt i e j f, k => fN i fun i => fN e fun e => fN j fun j => fN f fun f => k (.elt i e j f)
  | .sl i e s n c, k => fN i fun i => fN e fun e => fN s fun s => fN n fun n => fC c fun c => k (.sl i e s n c)
  | .map i, k => fN i fun i => k (.map i)
  | .chan i, k => fN i fun i => k (.chan i)
  | .fn f a b, k => fL a fun a => fL b fun b => k (.fn f a b)
  | .iface t v, k => fV v fun v => k (.iface t v)
  | .agg cs, k => fL cs fun cs => k (.agg cs)
  | .tup cs, k => fL cs fun cs => k (.tup cs)
  | v, k => k v
def fL : List VV → (List VV → α) → α
  | [], k => k []
  | v :: l, k => fV v fun v => fL l fun l => k (v :: l)
end
mutual
theorem fV_eq : ∀ (v : VV) (k : VV → α), fV v k = k v
  | .int kd n, k => by simp [fV, fKd_eq, fI_eq]
  | .bool b, k => by simp [fV, fBo_eq]
  | .ptr i f, k => by simp [fV, fN_eq]
  | .elt i e j f, k => by simp [fV, fN_eq]
  | .sl i e s n c, k => by simp [fV, fN_eq, fC_eq]
  | .map i, k => by simp [fV, fN_eq]
  | .chan i, k => by simp [fV, fN_eq]
  | .fn f a b, k => by simp [fV, fL_eq a, fL_eq b]
  | .iface t v, k => by simp [fV, fV_eq v]
  | .agg cs, k => by simp [fV, fL_eq cs]
  | .tup cs, k => by simp [fV, fL_eq cs]
  | .str _, k | .nilPtr, k | .nilSl, k | .nilMap, k | .nilChan, k | .nilFn, k | .nilIface, k | .raw _, k | .osl _ _ _ _ _, k => by simp [fV]
theorem fL_eq : ∀ (l : List VV) (k : List VV → α), fL l k = k l
  | [], k => by simp [fL]
  | v :: l, k => by simp [fL, fV_eq v, fL_eq l]
end
def fLL : List (List VV) → (List (List VV) → α) → α
  | [], k => k []
  | v :: l, k => fL v fun v => fLL l fun l => k (v :: l)
theorem fLL_eq : ∀ (l : List (List VV)) (k : List (List VV) → α), fLL l k = k l
  | [], k => by simp [fLL]
  | v :: l, k => by simp [fLL, fL_eq, fLL_eq l]
def fB : VB → (VB → α) → α
  | .cells cs, k => fL cs fun cs => k (.cells cs)
  | .arr e xs t, k => fN e fun e => fLL xs fun xs => fC t fun t => k (.arr e xs t)
  | .chan c xs, k => fN c fun c => fL xs fun xs => k (.chan c xs)
  | .map ks vs, k => fL ks fun ks => fL vs fun vs => k (.map ks vs)
  | b, k => k b
theorem fB_eq (b : VB) (k : VB → α) : fB b k = k b := by cases b <;> simp [fB, fN_eq, fL_eq, fLL_eq, fC_eq]
/-- A list with another entry, its spine laid bare. -/
def setK {β : Type} : List β → Nat → β → (List β → α) → α
  | [], _, _, k => k []
  | _ :: l, 0, x, k => k (x :: l)
  | a :: l, n + 1, x, k => setK l n x fun l => k (a :: l)
theorem setK_eq {β : Type} : ∀ (l : List β) (n : Nat) (x : β) (k : List β → α), setK l n x k = k (lset l n x)
  | [], _, _, k => rfl
  | _ :: l, 0, x, k => rfl
  | a :: l, n + 1, x, k => by simp [setK, lset, setK_eq l]
def appK {β : Type} : List β → List β → (List β → α) → α
  | [], m, k => k m
  | a :: l, m, k => appK l m fun l => k (a :: l)
theorem appK_eq {β : Type} : ∀ (l m : List β) (k : List β → α), appK l m k = k (lapp l m)
  | [], m, k => rfl
  | a :: l, m, k => by simp [appK, lapp, appK_eq l]
end

/-! Values that are the same. -/
def capB : Cap → Cap → Bool
  | .n a, .n b => Nat.beq a b
  | .v a, .v b => Nat.beq a b
  | _, _ => false
theorem capB_eq {a b : Cap} (h : capB a b = true) : a = b := by
  cases a <;> cases b <;> simp [capB] at h <;> simp [h]
mutual
def sameV : VV → VV → Bool
  | .int k n, .int k' n' => decide (k = k') && decide (n = n')
  | .bool a, .bool b => a == b
  | .nilPtr, .nilPtr => true
  | .ptr i f, .ptr i' f' => Nat.beq i i' && Nat.beq f f'
  | .elt i e j f, .elt i' e' j' f' => Nat.beq i i' && Nat.beq e e' && Nat.beq j j' && Nat.beq f f'
  | .nilSl, .nilSl => true
  | .sl i e s n c, .sl i' e' s' n' c' => Nat.beq i i' && Nat.beq e e' && Nat.beq s s' && Nat.beq n n' && capB c c'
  | .nilMap, .nilMap => true
  | .map i, .map j => Nat.beq i j
  | .nilFn, .nilFn => true
  | .nilIface, .nilIface => true
  | .iface t v, .iface t' v' => Nat.beq t t' && sameV v v'
  | .agg a, .agg b => sameL a b
  | _, _ => false
def sameL : List VV → List VV → Bool
  | [], [] => true
  | a :: l, b :: m => sameV a b && sameL l m
  | _, _ => false
end
mutual
theorem sameV_eq : ∀ (a b : VV), sameV a b = true → a = b
  | .int k n, b, h => by cases b <;> simp [sameV] at h <;> simp [h]
  | .bool a, b, h => by cases b <;> simp [sameV] at h <;> simp [h]
  | .nilPtr, b, h => by cases b <;> simp [sameV] at h <;> rfl
  | .ptr i f, b, h => by cases b <;> simp [sameV] at h <;> simp [h]
  | .elt i e j f, b, h => by cases b <;> simp [sameV] at h <;> simp [h]
  | .nilSl, b, h => by cases b <;> simp [sameV] at h <;> rfl
  | .sl i e s n c, b, h => by cases b <;> simp [sameV] at h <;> simp [h]; exact capB_eq h.2
  | .nilMap, b, h => by cases b <;> simp [sameV] at h <;> rfl
  | .map i, b, h => by cases b <;> simp [sameV] at h <;> simp [h]
  | .nilFn, b, h => by cases b <;> simp [sameV] at h <;> rfl
  | .nilIface, b, h => by cases b <;> simp [sameV] at h <;> rfl
  | .iface t v, b, h => by
    cases b <;> simp [sameV] at h
    rename_i t' v'
    rw [sameV_eq v v' h.2, h.1]
  | .agg a, b, h => by
    cases b <;> simp [sameV] at h
    rename_i b
    rw [sameL_eq a b h]
  | .str _, b, h | .nilChan, b, h | .chan _, b, h | .fn _ _ _, b, h | .tup _, b, h | .raw _, b, h | .osl _ _ _ _ _, b, h => by cases b <;> simp [sameV] at h
theorem sameL_eq : ∀ (a b : List VV), sameL a b = true → a = b
  | [], b, h => by cases b <;> simp [sameL] at h <;> rfl
  | a :: l, b, h => by
    cases b <;> simp [sameL] at h
    rename_i b m
    rw [sameV_eq a b h.1, sameL_eq l m h.2]
end

/-- The executor's own fields, each as it is. -/
def o0 : Ops (fun _ _ _ _ => True) (fun _ _ _ => True) := ops _ _
section
variable {EV : FuncId → List VV → List VB → (VV → List VB → Prop) → Prop} {RE : (Env → List VB → Prop) → Env → List VB → Prop} (o : Ops EV RE)
theorem ops_eq : o = ops EV RE := by
  cases o
  subst_vars
  rfl
theorem pval_o (op : I) (env : Env) : pval o op env = pval o0 op env := by rw [ops_eq o]; rfl
theorem lval_o (op : I) (env : Env) (V : List VB) : lval o op env V = lval o0 op env V := by rw [ops_eq o]; rfl
theorem fresh_o (op : I) (env : Env) (n : Nat) : fresh o op env n = fresh o0 op env n := by rw [ops_eq o]; rfl
theorem appSrc_o (e : Nat) (y : VV) (V : List VB) : appSrc o e y V = appSrc o0 e y V := by rw [ops_eq o]; rfl
theorem ldAt_o (p : VV) (n : Nat) (g : Bool) (V : List VB) : ldAt o p n g V = ldAt o0 p n g V := by rw [ops_eq o]; rfl
theorem resVal_o (env : Env) (V : List VB) : ∀ rs : List RV, resVal o env V rs = resVal o0 env V rs
  | [] => rfl
  | .tmp t :: l => by simp only [resVal, resVal_o env V l]
  | .cell t n g :: l => by simp only [resVal, resVal_o env V l, ldAt_o o]
theorem earlyB_o (env : Env) (n : Nat) (js : List Nat) : ∀ l : List DS, earlyB o env n js l = earlyB o0 env n js l
  | [] => rfl
  | y :: l => by simp only [earlyB, earlyB_o env n js l, fresh_o o]

abbrev CallF := FuncId → List VV → List VB → Option (VV × List VB)

/-- What an effect comes to. -/
def weF (call : CallF) (op : I) (env : Env) (V : List VB) : Option (VV × List VB) :=
  match op with
  | .st n a v => match Nat.beq (llen (v.ev env).cells) n with
    | true => match allOne (v.ev env).cells with
      | true => match a.ev env with
        | .ptr i off => match lget V i with
          | some (.cells cs) => match wrn cs off (v.ev env).cells with
            | some cs' => fL cs' fun cs' => setK V i (.cells cs') fun V => some (vundef, V)
            | none => none
          | _ => none
        | .elt i e j off => match lget V i with
          | some (.arr e' xs tot) => match Nat.beq e e' with
            | true => match lget xs j with
              | some cs => match wrn cs off (v.ev env).cells with
                | some cs' => fL cs' fun cs' => setK xs j cs' fun xs => setK V i (.arr e' xs tot) fun V => some (vundef, V)
                | none => none
              | none => none
            | false => none
          | _ => none
        | _ => none
      | false => none
    | false => none
  | .app esz bytes x y => match appSrc o0 esz (y.ev env) V with
    | some (ys, m) => match Nat.beq (llen ys) m && List.all ys allOne with
      | true => match x.ev env with
        | .nilSl => match Nat.ble 1 m && Nat.ble (m * bytes) 140737488355328 with
          | true => fN (llen V) fun L => fLL ys fun ys => appK V [.num, .arr esz ys (.v L)] fun V => some (.sl (Nat.succ L) esz 0 m (.v L), V)
          | false => none
        | .sl id e 0 n (.n c) => match lget V id with
          | some (.arr e' xs (.n tot)) => match Nat.beq e esz && Nat.beq e' esz && Nat.beq (llen xs) n && Nat.beq tot (c * esz) && Nat.ble ((n + m) * bytes) 140737488355328 with
            | true => fN (llen V) fun L => fLL ys fun ys => appK xs ys fun xs => setK V id .emp fun V => appK V [.num, .arr esz xs (.v L)] fun V => some (.sl (Nat.succ L) esz 0 (n + m) (.v L), V)
            | false => none
          | _ => none
        | .sl id e 0 n (.v c) => match lget V id with
          | some (.arr e' xs (.v c')) => match Nat.beq e esz && Nat.beq e' esz && Nat.beq (llen xs) n && Nat.beq c c' && Nat.ble ((n + m) * bytes) 140737488355328 with
            | true => fN (llen V) fun L => fLL ys fun ys => appK xs ys fun xs => setK V id .emp fun V => appK V [.num, .arr esz xs (.v L)] fun V => some (.sl (Nat.succ L) esz 0 (n + m) (.v L), V)
            | false => none
          | _ => none
        | _ => none
      | false => none
    | none => none
  | .clen x => match x.ev env with
    | .chan id => match lget V id with
      | some (.chan _ xs) => some (.int .i64 (Int.ofNat (llen xs)), V)
      | _ => none
    | .nilChan => some (.int .i64 0, V)
    | _ => none
  | .cpy esz x y => match appSrc o0 esz (y.ev env) V with
    | some (ys, m) => match x.ev env with
      | .sl id e s n _ => match lget V id with
        | some (.arr e' xs tot) => match Nat.beq e esz && Nat.beq e' esz && Nat.beq (llen ys) m && List.all ys allOne && Nat.ble (s + n) (llen xs) with
          | true => fLL (ovlF xs s ys (Nat.min m n)) fun xs => setK V id (.arr e' xs tot) fun V => some (.int .i64 (Int.ofNat (Nat.min m n)), V)
          | false => none
        | _ => none
      | _ => none
    | none => none
  | .mlen x => match x.ev env with
    | .map id => match lget V id with
      | some (.map ks _) => some (.int .i64 (Int.ofNat (llen ks)), V)
      | _ => none
    | .nilMap => some (.int .i64 0, V)
    | _ => none
  | .mlk pr z cok x k => match keyOk pr (k.ev env) with
    | true => match x.ev env with
      | .nilMap => match cok with
        | true => some (.tup [z, .bool false], V)
        | false => some (z, V)
      | .map id => match lget V id with
        | some (.map ks vs) => match kallF pr ks with
          | true => match mvalF ks vs (k.ev env) with
            | some v => match cok with
              | true => some (.tup [v, .bool true], V)
              | false => some (v, V)
            | none => match cok with
              | true => some (.tup [z, .bool false], V)
              | false => some (z, V)
          | false => none
        | _ => none
      | _ => none
    | false => none
  | .mup pr x k v => match keyOk pr (k.ev env) && VV.one (v.ev env) with
    | true => match x.ev env with
      | .map id => match lget V id with
        | some (.map ks vs) => match kallF pr ks with
          | true => fB (.map (mksF ks (k.ev env)) (mvsF ks vs (k.ev env) (v.ev env))) fun b => setK V id b fun V => some (vundef, V)
          | false => none
        | _ => none
      | _ => none
    | false => none
  | .mdl pr x k => match keyOk pr (k.ev env) with
    | true => match x.ev env with
      | .nilMap => some (vundef, V)
      | .map id => match lget V id with
        | some (.map ks vs) => match kallF pr ks with
          | true => fB (.map (dksF ks (k.ev env)) (dvsF ks vs (k.ev env))) fun b => setK V id b fun V => some (vundef, V)
          | false => none
        | _ => none
      | _ => none
    | false => none
  | .call f args => fL (evs env args) fun args => call f args V
  | .callv x args => match x.ev env with
    | .fn f first cap => fL (lapp first (lapp (evs env args) cap)) fun args => call f args V
    | _ => none
  | .inv x tbl args => match x.ev env with
    | .iface t v => match tbl.find? (fun p => Nat.beq p.1 t) with
      | some (_, f) => fL (v :: evs env args) fun args => call f args V
      | none => none
    | _ => none
  | _ => none

/-- One operation, computed. -/
def woF {α : Type} (call : CallF) (op : I) (env : Env) (V : List VB) (k : VV → List VB → Option α) : Option α :=
  match pval o0 op env with
  | some (v, none) => fV v fun v => k v V
  | some (v, some b) => match b with
    | true => fV v fun v => k v V
    | false => none
  | none => match lval o0 op env V with
    | some v => k v V
    | none => match fresh o0 op env (llen V) with
      | some (vb, v, none) => fB vb fun vb => fV v fun v => appK V [vb] fun V => k v V
      | some (vb, v, some b) => match b with
        | true => fB vb fun vb => fV v fun v => appK V [vb] fun V => k v V
        | false => none
      | none => match weF call op env V with
        | some (v, V) => fV v fun v => k v V
        | none => none

/-- A temp gets a value. -/
def putF {α : Type} (E : List VV) (d : Option Nat) (v : VV) (k : List VV → Option α) : Option α :=
  match d with
  | none => k E
  | some d => match Nat.blt d (llen E) with
    | true => setK E d v k
    | false => none
theorem lget_lset {α : Type} : ∀ (l : List α) (d t : Nat) (x : α), d < l.length → lget (lset l d x) t = if t = d then some x else lget l t
  | [], d, t, x, h => by simp at h
  | a :: l, 0, 0, x, h => rfl
  | a :: l, 0, t + 1, x, h => by simp [lset, lget]
  | a :: l, d + 1, 0, x, h => by simp [lset, lget]
  | a :: l, d + 1, t + 1, x, h => by simp [lset, lget, lget_lset l d t x (by simpa using h)]
theorem envOf_lset {E : List VV} {d : Nat} {v : VV} (h : d < E.length) : envOf (lset E d v) = put (envOf E) (some d) v := by
  funext t
  simp only [envOf, put, lget_lset E d t v h]
  by_cases ht : t = d
  · subst ht; simp
  · rw [if_neg ht]
    have : Nat.beq t d = false := by
      cases hb : Nat.beq t d with
      | false => rfl
      | true => exact absurd (Nat.eq_of_beq_eq_true hb) ht
    rw [this]
theorem putF_some {α : Type} {E : List VV} {d : Option Nat} {v : VV} {k : List VV → Option α} {r : α} (h : putF E d v k = some r) : ∃ E', envOf E' = put (envOf E) d v ∧ k E' = some r := by
  cases d with
  | none => exact ⟨E, rfl, h⟩
  | some d =>
    simp only [putF] at h
    cases hb : Nat.blt d (llen E) with
    | true =>
      rw [hb] at h
      simp only at h
      rw [setK_eq] at h
      have hlt : d < E.length := by rw [Nat.blt_eq, llen_eq] at hb; exact hb
      exact ⟨_, envOf_lset hlt, h⟩
    | false => rw [hb] at h; cases h

/-- An operation of a region, its guard looked at. -/
def wostF {α : Type} (call : CallF) (i : IOp) (E : List VV) (V : List VB) (k : List VV → List VB → Option α) : Option α :=
  match i.guard with
  | none => woF call i.op (envOf E) V fun v V => putF E i.dst v fun E => k E V
  | some (g, want) => match envOf E g with
    | .bool b => match b with
      | true => match want with
        | true => woF call i.op (envOf E) V fun v V => putF E i.dst v fun E => k E V
        | false => putF E i.dst vundef fun E => k E V
      | false => match want with
        | false => woF call i.op (envOf E) V fun v V => putF E i.dst v fun E => k E V
        | true => putF E i.dst vundef fun E => k E V
    | .raw _ => none
    | _ => putF E i.dst vundef fun E => k E V
def wopsF {α : Type} (call : CallF) : List IOp → List VV → List VB → (List VV → List VB → Option α) → Option α
  | [], E, V, k => k E V
  | i :: l, E, V, k => wostF call i E V fun E V => wopsF call l E V k

def pinsB : List Pin → List VB → Bool
  | [], _ => true
  | q :: l, V => match ldAt o0 q.p q.n q.agg V with
    | some v => sameV v q.v && pinsB l V
    | none => false
def wdexF {α : Type} (call : CallF) (s : DS) (pins : List Pin) (E : List VV) (V : List VB) (k : List Pin → List VV → List VB → Option α) : Option α :=
  match s.k with
  | .q => match pval o0 s.io.op (envOf E) with
    | some (v, none) => fV v fun v => putF E s.io.dst v fun E => k pins E V
    | some (v, some b) => match b with
      | true => fV v fun v => putF E s.io.dst v fun E => k pins E V
      | false => none
    | none => match lval o0 s.io.op (envOf E) V with
      | some v => match mkPin s.j s.io.op (envOf E) v with
        | some pin => putF E s.io.dst v fun E => k (pin :: pins) E V
        | none => none
      | none => none
  | _ => woF call s.io.op (envOf E) V fun v V => match pinsB (keepPins s.io.after pins) V with
    | true => putF E s.io.dst v fun E => k (keepPins s.io.after pins) E V
    | false => none
def wdskF {α : Type} (s : DS) (pins : List Pin) (E : List VV) (V : List VB) (k : List Pin → List VV → List VB → Option α) : Option α :=
  putF E s.io.dst vundef fun E => k (match s.k with | .q => pins | _ => keepPins s.io.after pins) E V
def wdstF {α : Type} (call : CallF) (s : DS) (pins : List Pin) (E : List VV) (V : List VB) (k : List Pin → List VV → List VB → Option α) : Option α :=
  match s.io.guard with
  | none => wdexF call s pins E V k
  | some (g, want) => match envOf E g with
    | .bool b => match b with
      | true => match want with
        | true => wdexF call s pins E V k
        | false => wdskF s pins E V k
      | false => match want with
        | false => wdexF call s pins E V k
        | true => wdskF s pins E V k
    | .raw _ => none
    | _ => wdskF s pins E V k
def wdrF {α : Type} (call : CallF) : List DS → List Pin → List VV → List VB → (List VV → List VB → Option α) → Option α
  | [], _, E, V, k => k E V
  | s :: l, pins, E, V, k => match s.k with
    | .q => wdstF call s pins E V fun pins E V => wdrF call l pins E V k
    | _ => match earlyB o0 (envOf E) (llen V) (s.j :: jsOf l) l with
      | true => wdstF call s pins E V fun pins E V => wdrF call l pins E V k
      | false => none

/-- What code comes to: how it is left, the temps, the heap. -/
abbrev Out := VX × List VV × List VB
def iterF (body : List VV → List VB → Option Out) : Nat → List VV → List VB → Option Out
  | 0, _, _ => none
  | n + 1, E, V => match body E V with
    | some (x, E, V) => match x with
      | .normal => iterF body n E V
      | x => some (x, E, V)
    | none => none
def runI (call : CallF) (fl : Nat) : IC → List VV → List VB → Option Out
  | .skip, E, V => some (.normal, E, V)
  | .region l, E, V => wopsF call l E V fun E V => some (.normal, E, V)
  | .draw l, E, V => wdrF call l [] E V fun E V => some (.normal, E, V)
  | .seq a b, E, V => match runI call fl a E V with
    | some (x, E, V) => match x with
      | .normal => runI call fl b E V
      | x => some (x, E, V)
    | none => none
  | .cond c a b, E, V => match c.ev (envOf E) with
    | .bool t => match t with
      | true => runI call fl a E V
      | false => runI call fl b E V
    | _ => none
  | .block id b, E, V => match runI call fl b E V with
    | some (x, E, V) => match x with
      | .exit i => match Nat.beq i id with
        | true => some (.normal, E, V)
        | false => some (.exit i, E, V)
      | x => some (x, E, V)
    | none => none
  | .loop b, E, V => iterF (runI call fl b) fl E V
  | .exit i, E, V => some (.exit i, E, V)
  | .ret, E, V => some (.ret, E, V)
  | .label, E, V => some (.normal, E, V)

/-- A function: its temps, its code, its results. -/
structure Ent where
  n : Nat
  c : IC
  rv : List RV
  gc : Bool
def padF : List VV → Nat → List VV
  | [], n => lrep n vundef
  | a :: l, n => a :: padF l (n - 1)
def runE (tab : List (Option Ent)) (fl : Nat) : Nat → FuncId → List VV → List VB → Option (VV × List VB)
  | 0, _, _, _ => none
  | n + 1, f, args, V => match lget tab f with
    | some (some e) => match Nat.ble (llen args) e.n with
      | true => fL (padF args e.n) fun E => match runI (runE tab fl n) fl e.c E V with
        | some (x, E, V) => match x with
          | .exit _ => none
          | _ => match resVal o0 (envOf E) V e.rv with
            | some [v] => some (v, V)
            | some l => some (.tup l, V)
            | none => none
        | none => none
      | false => none
    | _ => none
end

/-! It is as the condition says. -/
section
variable {EV : FuncId → List VV → List VB → (VV → List VB → Prop) → Prop} {RE : (Env → List VB → Prop) → Env → List VB → Prop} {o : Ops EV RE}

def CallOk (EV : FuncId → List VV → List VB → (VV → List VB → Prop) → Prop) (call : CallF) : Prop :=
  ∀ f args V v V' (K : VV → List VB → Prop), call f args V = some (v, V') → K v V' → EV f args V K

theorem weF_ok {call : CallF} (hcall : CallOk EV call) {op : I} {env : Env} {V : List VB} {v : VV} {V' : List VB} {K : VV → List VB → Prop} (h : weF call op env V = some (v, V')) (hk : K v V') : weff o op env V K := by
  cases op
  all_goals simp only [weF] at h
  all_goals try (cases h; done)
  all_goals simp only [weff]
  case st n a v =>
    split at h
    · rename_i h1; rw [h1]
      split at h
      · rename_i h2; rw [h2]
        split at h
        · rename_i i off h3; rw [h3]
          split at h
          · rename_i cs h4; simp only [h4]
            split at h
            · rename_i cs' h5; simp only [h5]
              rw [fL_eq, setK_eq] at h
              cases h; exact hk
            · cases h
          · cases h
        · rename_i i e j off h3; rw [h3]
          split at h
          · rename_i e' xs tot h4; simp only [h4]
            split at h
            · rename_i h6; simp only [h6]
              split at h
              · rename_i cs h7
                rw [lget_eq] at h7
                simp only [o.get_eq, h7]
                split at h
                · rename_i cs' h5; simp only [h5]
                  rw [fL_eq, setK_eq, setK_eq, lset_eq (l := xs)] at h
                  rw [o.set_eq]
                  cases h; exact hk
                · cases h
              · cases h
            · cases h
          · cases h
        · cases h
      · cases h
    · cases h
  case app esz bytes x y =>
    rw [appSrc_o o]
    split at h
    · rename_i ys m h1; simp only [h1]
      split at h
      · rename_i h2
        simp only [Bool.and_eq_true] at h2
        have h2l := Nat.eq_of_beq_eq_true h2.1
        refine ⟨by rw [o.ll_eq, ← llen_eq]; exact h2l, by rw [o.all1_eq]; exact h2.2, ?_⟩
        split at h
        · rename_i h3; simp only [h3]
          split at h
          · rename_i h4
            simp only [Bool.and_eq_true, Nat.ble_eq] at h4
            rw [fN_eq, fLL_eq, appK_eq] at h
            refine ⟨by rw [o.nle_eq, o.nmul_eq]; simpa using h4, .inr fun _ => ?_⟩
            cases h; exact hk
          · cases h
        · rename_i id e n c h3; simp only [h3]
          split at h
          · rename_i e' xs tot h4; simp only [h4]
            split at h
            · rename_i h5
              simp only [Bool.and_eq_true, Nat.ble_eq] at h5
              obtain ⟨⟨⟨⟨h5, h6⟩, h7⟩, h8⟩, h9⟩ := h5
              simp only [h5, h6]
              rw [fN_eq, fLL_eq, appK_eq, setK_eq, appK_eq] at h
              refine ⟨by rw [o.nle_eq, o.nmul_eq, o.nadd_eq, o.ll_eq, ← llen_eq]; exact ⟨Nat.eq_of_beq_eq_true h7, Nat.eq_of_beq_eq_true h8, decide_eq_true h9⟩, .inr fun _ => ?_⟩
              simp only [o.nadd_eq, o.cat_eq, ← lapp_eq (l := xs)]
              cases h; exact hk
            · cases h
          · cases h
        · rename_i id e n c h3; simp only [h3]
          split at h
          · rename_i e' xs c' h4; simp only [h4]
            split at h
            · rename_i h5
              simp only [Bool.and_eq_true, Nat.ble_eq] at h5
              obtain ⟨⟨⟨⟨h5, h6⟩, h7⟩, h8⟩, h9⟩ := h5
              simp only [h5, h6, h8]
              rw [fN_eq, fLL_eq, appK_eq, setK_eq, appK_eq] at h
              refine ⟨by rw [o.nle_eq, o.nmul_eq, o.nadd_eq, o.ll_eq, ← llen_eq]; exact ⟨Nat.eq_of_beq_eq_true h7, decide_eq_true h9⟩, ?_⟩
              simp only [o.nadd_eq, o.cat_eq, ← lapp_eq (l := xs)]
              cases h; exact hk
            · cases h
          · cases h
        · cases h
      · cases h
    · cases h
  case clen x =>
    split at h
    · rename_i id h1; simp only [h1]
      split at h
      · rename_i c xs h2; simp only [h2]
        rw [o.len_eq, ← llen_eq]
        cases h; exact hk
      · cases h
    · rename_i h1; simp only [h1]; cases h; exact hk
    · cases h
  case mlen x =>
    split at h
    · rename_i id h1; simp only [h1]
      split at h
      · rename_i c xs h2; simp only [h2]
        rw [o.len_eq, ← llen_eq]
        cases h; exact hk
      · cases h
    · rename_i h1; simp only [h1]; cases h; exact hk
    · cases h
  case cpy esz x y =>
    rw [appSrc_o o]
    split at h
    · rename_i ys m h1; simp only [h1]
      split at h
      · rename_i id e s n c h3; simp only [h3]
        split at h
        · rename_i e' xs tot h4; simp only [h4]
          split at h
          · rename_i h5
            simp only [Bool.and_eq_true, Nat.ble_eq] at h5
            obtain ⟨⟨⟨⟨h5, h6⟩, h7⟩, h8⟩, h9⟩ := h5
            simp only [h5, h6]
            rw [fLL_eq, setK_eq] at h
            refine ⟨⟨by rw [o.ll_eq, ← llen_eq]; exact Nat.eq_of_beq_eq_true h7, by rw [o.all1_eq]; exact h8, by rw [o.nle_eq, o.nadd_eq, o.ll_eq, ← llen_eq]; exact decide_eq_true h9⟩, ?_⟩
            rw [o.nmn_eq, o.ovl_eq]
            cases h; exact hk
          · cases h
        · cases h
      · cases h
    · cases h
  case mlk pr z cok x k =>
    split at h
    · rename_i h1; simp only [h1]
      split at h
      · rename_i h2; simp only [h2]
        cases cok <;> simp only at h <;> cases h <;> exact hk
      · rename_i id h2; simp only [h2]
        split at h
        · rename_i ks vs h3; simp only [h3]
          split at h
          · rename_i h4
            refine ⟨by rw [o.kall_eq]; exact h4, ?_⟩
            rw [o.mval_eq]
            split at h
            · rename_i v h5; simp only [h5]
              cases cok <;> simp only at h <;> cases h <;> exact hk
            · rename_i h5; simp only [h5]
              cases cok <;> simp only at h <;> cases h <;> exact hk
          · cases h
        · cases h
      · cases h
    · cases h
  case mup pr x k v =>
    split at h
    · rename_i h1
      simp only [Bool.and_eq_true] at h1
      simp only [h1.1, h1.2]
      split at h
      · rename_i id h2; simp only [h2]
        split at h
        · rename_i ks vs h3; simp only [h3]
          split at h
          · rename_i h4
            refine ⟨by rw [o.kall_eq]; exact h4, ?_⟩
            rw [o.mks_eq, o.mvs_eq]
            rw [fB_eq, setK_eq] at h
            cases h; exact hk
          · cases h
        · cases h
      · cases h
    · cases h
  case mdl pr x k =>
    split at h
    · rename_i h1; simp only [h1]
      split at h
      · rename_i h2; simp only [h2]; cases h; exact hk
      · rename_i id h2; simp only [h2]
        split at h
        · rename_i ks vs h3; simp only [h3]
          split at h
          · rename_i h4
            refine ⟨by rw [o.kall_eq]; exact h4, ?_⟩
            rw [o.dks_eq, o.dvs_eq]
            rw [fB_eq, setK_eq] at h
            cases h; exact hk
          · cases h
        · cases h
      · cases h
    · cases h
  case call f args =>
    rw [fL_eq] at h
    rw [o.ev_eq]; exact hcall _ _ _ _ _ _ h hk
  case callv x args =>
    split at h
    · rename_i f a b h1; simp only [h1]
      rw [fL_eq] at h
      rw [o.ev_eq]; exact hcall _ _ _ _ _ _ h hk
    · cases h
  case inv x tbl args =>
    split at h
    · rename_i t v h1; simp only [h1]
      split at h
      · rename_i t' f h2; simp only [h2]
        rw [fL_eq] at h
        rw [o.ev_eq]; exact hcall _ _ _ _ _ _ h hk
      · cases h
    · cases h

theorem woF_ok {α : Type} {call : CallF} (hcall : CallOk EV call) {op : I} {env : Env} {V : List VB} {k : VV → List VB → Option α} {r : α} {K : VV → List VB → Prop} (h : woF call op env V k = some r)
    (hk : ∀ v V', k v V' = some r → K v V') : wop o op env V K := by
  unfold woF at h
  unfold wop
  rw [pval_o o, lval_o o, fresh_o o]
  split at h
  · rename_i v h1; simp only [h1]; rw [fV_eq] at h; exact hk _ _ h
  · rename_i v b h1; simp only [h1]
    cases b
    · cases h
    · simp only [fV_eq] at h; exact ⟨rfl, hk _ _ h⟩
  · rename_i h1; simp only [h1]
    split at h
    · rename_i v h2; simp only [h2]; exact hk _ _ h
    · rename_i h2; simp only [h2]
      split at h
      · rename_i vb v h3; simp only [h3]; rw [fB_eq, fV_eq, appK_eq] at h; exact hk _ _ h
      · rename_i vb v b h3; simp only [h3]
        cases b
        · cases h
        · simp only [fB_eq, fV_eq, appK_eq] at h; exact ⟨rfl, hk _ _ h⟩
      · rename_i h3; simp only [h3]
        split at h
        · rename_i v V' h4
          rw [fV_eq] at h
          exact weF_ok hcall h4 (hk _ _ h)
        · cases h

theorem put_self {E : List VV} {g : Nat} {v : VV} (h : envOf E g = v) : put (envOf E) (some g) v = envOf E := by
  funext t
  simp only [put]
  split
  · rename_i hb; rw [Nat.eq_of_beq_eq_true hb, h]
  · rfl

theorem wostF_ok {α : Type} {call : CallF} (hcall : CallOk EV call) {i : IOp} {E : List VV} {V : List VB} {k : List VV → List VB → Option α} {r : α} {K : Env → List VB → Prop} (h : wostF call i E V k = some r)
    (hk : ∀ E V', k E V' = some r → K (envOf E) V') : wost o i K (envOf E) V := by
  have run : woF call i.op (envOf E) V (fun v V => putF E i.dst v fun E => k E V) = some r → wop o i.op (envOf E) V fun v V => K (put (envOf E) i.dst v) V := by
    intro h
    refine woF_ok hcall h fun v V' h2 => ?_
    obtain ⟨E', e1, e2⟩ := putF_some h2
    rw [← e1]; exact hk _ _ e2
  have skp : putF E i.dst vundef (fun E => k E V) = some r → K (put (envOf E) i.dst vundef) V := by
    intro h2
    obtain ⟨E', e1, e2⟩ := putF_some h2
    rw [← e1]; exact hk _ _ e2
  unfold wostF at h
  unfold wost
  split at h
  · rename_i h1; simp only [h1]; exact run h
  · rename_i g want h1; simp only [h1]
    split at h
    · rename_i b h2; simp only [h2]
      cases b <;> cases want <;> simp only at h <;> simp only [ifB, put_self h2] <;> first | exact run h | exact skp h
    · cases h
    · rename_i h2 h3
      split
      · rename_i b hb; exact absurd hb (h2 b)
      · rename_i x hx; exact absurd hx (h3 x)
      · exact skp h

theorem wopsF_ok {α : Type} {call : CallF} (hcall : CallOk EV call) {k : List VV → List VB → Option α} {r : α} {K : Env → List VB → Prop} (hk : ∀ E V', k E V' = some r → K (envOf E) V') :
    ∀ {l : List IOp} {E : List VV} {V : List VB}, wopsF call l E V k = some r → wops o K (envOf E) V l
  | [], E, V, h => hk E V h
  | i :: l, E, V, h => by
    simp only [wopsF] at h
    simp only [wops]
    exact wostF_ok hcall h fun E V' h2 => wopsF_ok hcall hk h2

theorem pinsB_ok : ∀ {l : List Pin} {V : List VB}, pinsB l V = true → pinsOk o l V
  | [], _, _ => trivial
  | q :: l, V, h => by
    simp only [pinsB] at h
    split at h
    · rename_i v hv
      simp only [Bool.and_eq_true] at h
      exact ⟨by rw [ldAt_o o, hv, sameV_eq _ _ h.1], pinsB_ok h.2⟩
    · cases h

theorem wdexF_ok {α : Type} {call : CallF} (hcall : CallOk EV call) {s : DS} {pins : List Pin} {E : List VV} {V : List VB} {k : List Pin → List VV → List VB → Option α} {r : α} {K : List Pin → Env → List VB → Prop}
    (h : wdexF call s pins E V k = some r) (hk : ∀ pins E V', k pins E V' = some r → K pins (envOf E) V') : wdex o s pins K (envOf E) V := by
  have pt : ∀ {pins : List Pin} {v : VV} {V : List VB}, putF E s.io.dst v (fun E => k pins E V) = some r → K pins (put (envOf E) s.io.dst v) V := by
    intro pins v V h2
    obtain ⟨E', e1, e2⟩ := putF_some h2
    rw [← e1]; exact hk _ _ _ e2
  have eff : woF call s.io.op (envOf E) V (fun v V => match pinsB (keepPins s.io.after pins) V with | true => putF E s.io.dst v fun E => k (keepPins s.io.after pins) E V | false => none) = some r →
      wop o s.io.op (envOf E) V fun v V' => pinsOk o (keepPins s.io.after pins) V' ∧ K (keepPins s.io.after pins) (put (envOf E) s.io.dst v) V' := by
    intro h
    refine woF_ok hcall h fun v V' h2 => ?_
    split at h2
    · rename_i hp; exact ⟨pinsB_ok hp, pt h2⟩
    · cases h2
  unfold wdexF at h
  unfold wdex
  cases hs : s.k <;> simp only [hs] at h ⊢
  · rw [pval_o o, lval_o o]
    split at h
    · rename_i v h1; simp only [h1]; rw [fV_eq] at h; exact pt h
    · rename_i v b h1; simp only [h1]
      cases b
      · cases h
      · simp only [fV_eq] at h; exact ⟨rfl, pt h⟩
    · rename_i h1; simp only [h1]
      split at h
      · rename_i v h2; simp only [h2]
        split at h
        · rename_i pin h3; simp only [h3]; exact pt h
        · cases h
      · cases h
  · exact eff h
  · exact eff h

theorem wdstF_ok {α : Type} {call : CallF} (hcall : CallOk EV call) {s : DS} {pins : List Pin} {E : List VV} {V : List VB} {k : List Pin → List VV → List VB → Option α} {r : α} {K : List Pin → Env → List VB → Prop}
    (h : wdstF call s pins E V k = some r) (hk : ∀ pins E V', k pins E V' = some r → K pins (envOf E) V') : wdst o s pins K (envOf E) V := by
  have skp : wdskF s pins E V k = some r → wdsk s pins K (envOf E) V := by
    intro h
    unfold wdskF at h
    obtain ⟨E', e1, e2⟩ := putF_some h
    unfold wdsk
    rw [← e1]; exact hk _ _ _ e2
  unfold wdstF at h
  unfold wdst
  split at h
  · rename_i h1; simp only [h1]; exact wdexF_ok hcall h hk
  · rename_i g want h1; simp only [h1]
    split at h
    · rename_i b h2; simp only [h2]
      cases b <;> cases want <;> simp only at h <;> simp only [ifB, put_self h2] <;> first | exact wdexF_ok hcall h hk | exact skp h
    · cases h
    · rename_i h2 h3
      split
      · rename_i b hb; exact absurd hb (h2 b)
      · rename_i x hx; exact absurd hx (h3 x)
      · exact skp h

theorem wdrF_ok {α : Type} {call : CallF} (hcall : CallOk EV call) {k : List VV → List VB → Option α} {r : α} {K : Env → List VB → Prop} (hk : ∀ E V', k E V' = some r → K (envOf E) V') :
    ∀ {l : List DS} {pins : List Pin} {E : List VV} {V : List VB}, wdrF call l pins E V k = some r → wdr o K pins (envOf E) V l
  | [], _, E, V, h => hk E V h
  | s :: l, pins, E, V, h => by
    simp only [wdrF] at h
    simp only [wdr]
    cases hs : s.k <;> simp only [hs] at h ⊢
    · exact wdstF_ok hcall h fun pins E V' h2 => wdrF_ok hcall hk h2
    · rw [earlyB_o o]
      split at h
      · rename_i he; simp only [he]; exact wdstF_ok hcall h fun pins E V' h2 => wdrF_ok hcall hk h2
      · cases h
    · rw [earlyB_o o]
      split at h
      · rename_i he; simp only [he]; exact wdstF_ok hcall h fun pins E V' h2 => wdrF_ok hcall hk h2
      · cases h

theorem runI_ok {call : CallF} (hcall : CallOk EV call) (hre : ∀ (K : Env → List VB → Prop) env V, K env V → RE K env V) {fl : Nat} :
    ∀ {ic : IC} {E : List VV} {V : List VB} {x : VX} {E' : List VV} {V' : List VB} {K : VX → Env → List VB → Prop}, runI call fl ic E V = some (x, E', V') → K x (envOf E') V' → wpI o ic K (envOf E) V
  | .skip, E, V, x, E', V', K, h, hk => by simp only [runI] at h; cases h; exact hk
  | .region l, E, V, x, E', V', K, h, hk => by
    simp only [runI] at h
    simp only [wpI]
    exact wopsF_ok hcall (fun E V h => by cases h; exact hk) h
  | .draw l, E, V, x, E', V', K, h, hk => by
    simp only [runI] at h
    simp only [wpI]
    exact wdrF_ok hcall (fun E V h => by cases h; exact hk) h
  | .seq a b, E, V, x, E', V', K, h, hk => by
    simp only [runI] at h
    simp only [wpI]
    split at h
    · rename_i x1 E1 V1 h1
      refine runI_ok hcall hre h1 ?_
      cases x1 <;> simp only at h ⊢
      · exact runI_ok hcall hre h hk
      · cases h; exact hk
      · cases h; exact hk
    · cases h
  | .cond c a b, E, V, x, E', V', K, h, hk => by
    simp only [runI] at h
    simp only [wpI]
    split at h
    · rename_i t h1; simp only [h1]
      cases t <;> simp only at h <;> simp only [ifB]
      · exact runI_ok hcall hre h hk
      · exact runI_ok hcall hre h hk
    · cases h
  | .block id b, E, V, x, E', V', K, h, hk => by
    simp only [runI] at h
    simp only [wpI]
    split at h
    · rename_i x1 E1 V1 h1
      refine runI_ok hcall hre h1 ?_
      cases x1 <;> simp only at h ⊢
      · cases h; exact hk
      · split at h <;> (rename_i hb; simp only [hb]; cases h; exact hk)
      · cases h; exact hk
    · cases h
  | .loop b, E, V, x, E', V', K, h, hk => by
    simp only [runI] at h
    simp only [wpI]
    refine ⟨fun m env V => ∃ E, env = envOf E ∧ iterF (runI call fl b) m E V = some (x, E', V'), ⟨fl, o.reI (hre _ _ _ ⟨E, rfl, h⟩)⟩, ?_⟩
    rintro m env V1 ⟨E1, rfl, h1⟩
    cases m with
    | zero => simp only [iterF] at h1; cases h1
    | succ m =>
      simp only [iterF] at h1
      split at h1
      · rename_i x2 E2 V2 h2
        refine runI_ok hcall hre h2 ?_
        cases x2 <;> simp only at h1 ⊢
        · exact ⟨m, Nat.lt_succ_self m, o.reI (hre _ _ _ ⟨E2, rfl, h1⟩)⟩
        · cases h1; exact hk
        · cases h1; exact hk
      · cases h1
  | .exit i, E, V, x, E', V', K, h, hk => by simp only [runI] at h; cases h; exact hk
  | .ret, E, V, x, E', V', K, h, hk => by simp only [runI] at h; cases h; exact hk
  | .label, E, V, x, E', V', K, h, hk => by simp only [runI] at h; cases h; exact hk
end

theorem lget_lrep {α : Type} {x : α} : ∀ (n i : Nat), lget (lrep n x) i = if i < n then some x else none
  | 0, i => by simp [lrep, lget]
  | n + 1, 0 => by simp [lrep, lget]
  | n + 1, i + 1 => by simp [lrep, lget, lget_lrep n i]
theorem envOf_pad : ∀ (args : List VV) (n : Nat), envOf (padF args n) = envOf args
  | [], n => by
    funext t
    simp only [envOf, padF, lget_lrep, lget]
    split <;> rename_i h <;> split at h <;> simp_all
  | a :: l, n => by
    funext t
    have := congrFun (envOf_pad l (n - 1))
    cases t with
    | zero => rfl
    | succ t =>
      have h2 := this t
      simp only [envOf] at h2
      simpa [envOf, padF, lget] using h2

/-- What is known of a function's entry. -/
def EntOk (P : Program) (W0 : World) (f : FuncId) (e : Ent) : Prop :=
  ∀ (args : List VV) (V : List VB) (Q : VV → List VB → Prop), Nat.ble args.length e.n = true → (∀ o : Ops (Ev P W0) (Re W0 e.n V.length), wpI o e.c (retK o e.rv Q) (envOf args) V) → Ev P W0 f args V Q
def TabOk (P : Program) (W0 : World) : Nat → List (Option Ent) → Prop
  | _, [] => True
  | n, none :: l => TabOk P W0 (n + 1) l
  | n, some e :: l => EntOk P W0 n e ∧ TabOk P W0 (n + 1) l
theorem TabOk.get {P : Program} {W0 : World} : ∀ {l : List (Option Ent)} {n f : Nat} {e : Ent}, TabOk P W0 n l → lget l f = some (some e) → EntOk P W0 (n + f) e
  | [], _, _, _, _, h => by simp [lget] at h
  | none :: l, n, 0, e, _, h => by simp [lget] at h
  | some a :: l, n, 0, e, ht, h => by simp [lget] at h; subst h; exact ht.1
  | none :: l, n, f + 1, e, ht, h => by
    have := TabOk.get (l := l) (n := n + 1) (f := f) ht (by simpa [lget] using h)
    rwa [Nat.add_assoc, Nat.add_comm 1 f] at this
  | some a :: l, n, f + 1, e, ht, h => by
    have := TabOk.get (l := l) (n := n + 1) (f := f) ht.2 (by simpa [lget] using h)
    rwa [Nat.add_assoc, Nat.add_comm 1 f] at this

theorem runE_ok {P : Program} {W0 : World} {tab : List (Option Ent)} (ht : TabOk P W0 0 tab) {fl : Nat} : ∀ n : Nat, CallOk (Ev P W0) (runE tab fl n)
  | 0, f, args, V, v, V', K, h, hk => by simp [runE] at h
  | n + 1, f, args, V, v, V', K, h, hk => by
    simp only [runE] at h
    split at h
    · rename_i e he
      have hent := ht.get he
      rw [Nat.zero_add] at hent
      split at h
      · rename_i hb
        rw [llen_eq] at hb
        rw [fL_eq] at h
        refine hent args V K hb fun o => ?_
        rw [← envOf_pad args e.n]
        split at h
        · rename_i x E1 V1 h1
          refine runI_ok (runE_ok ht n) (fun K env V hk φ h w a hE hR => ⟨env, V, φ, h, hk, Phi.leN.refl _ _, hR, hE, Fr.refl _ _⟩) h1 ?_
          have fin : (match resVal o0 (envOf E1) V1 e.rv with | some [v] => some (v, V1) | some l => some (.tup l, V1) | none => none) = some (v, V') → (match resVal o (envOf E1) V1 e.rv with | some [v] => K v V1 | some l => K (.tup l) V1 | none => False) := by
            intro h
            rw [resVal_o o]
            generalize resVal o0 (envOf E1) V1 e.rv = r at h ⊢
            match r, h with
            | some [u], h => cases h; exact hk
            | some [], h => cases h; exact hk
            | some (a :: b :: l), h => cases h; exact hk
            | none, h => cases h
          unfold retK
          cases x <;> simp only at h ⊢
          · exact fin h
          · cases h
          · exact fin h
        · cases h
      · cases h
    · cases h
/-- A closed call: what it comes to is computed. -/
theorem Ev.runE {P : Program} {W0 : World} {tab : List (Option Ent)} (ht : TabOk P W0 0 tab) {fl n : Nat} {f : FuncId} {args : List VV} {V : List VB} {v : VV} {V' : List VB} (h : Go.SL.runE tab fl n f args V = some (v, V')) :
    Ev P W0 f args V (fun u U => u = v ∧ U = V') := runE_ok ht n f args V v V' _ h ⟨rfl, rfl⟩
end Go.SL
