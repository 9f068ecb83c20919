/- A symbolic executor over the model: from the model's code to the small code; the operations that only compute. -/
import Derived.Test.YtglghdjpkecngaaGreatSLb
import Derived.Laws.CopyRow
import Derived.Laws.Cells
import Derived.Laws.Entries
namespace Go.SL

def vvOf : Value → Option VV
  | .int k n => some (.int k n)
  | .bool b => some (.bool b)
  | .string s => some (.str s)
  | .pointer none => some .nilPtr
  | .slice none 0 0 => some .nilSl
  | .map none => some .nilMap
  | .chan none => some .nilChan
  | .nilFunc => some .nilFn
  | .nilIface => some .nilIface
  | _ => none
def vvList : List Value → Option (List VV)
  | [] => some []
  | v :: l => match vvOf v, vvList l with
    | some x, some r => some (x :: r)
    | _, _ => none
def vvAny : Value → Option VV
  | .agg cs => (vvList cs.toList).map .agg
  | v => vvOf v
theorem vvOf_den {v : Value} {x : VV} (h : vvOf v = some x) (φ : Phi) : den φ x = some v := by
  unfold vvOf at h
  split at h <;> first | (cases h; rfl) | cases h
theorem vvList_den : ∀ {l : List Value} {r : List VV}, vvList l = some r → ∀ φ : Phi, denL φ r = some l
  | [], r, h, φ => by simp [vvList] at h; subst h; rfl
  | v :: l, r, h, φ => by
    simp only [vvList] at h
    split at h
    · rename_i x s hx hs
      cases h
      exact denL_cons.2 ⟨v, l, vvOf_den hx φ, vvList_den hs φ, rfl⟩
    · cases h
theorem vvAny_den {v : Value} {x : VV} (h : vvAny v = some x) (φ : Phi) : den φ x = some v := by
  unfold vvAny at h
  split at h
  · rename_i cs
    simp only [Option.map_eq_some_iff] at h
    obtain ⟨r, hr, rfl⟩ := h
    have := vvList_den hr φ
    simp [den, this]
  · exact vvOf_den h φ

def rd (N : Nat) : Operand → Option Rd
  | .tmp t => if t < N then some (.t t) else none
  | .const v => (vvAny v).map .c
  | .func f => some (.c (.fn f [] []))
  | .global _ => none
def rds (N : Nat) : List Operand → Option (List Rd)
  | [] => some []
  | x :: l => match rd N x, rds N l with
    | some a, some r => some (a :: r)
    | _, _ => none

def rdo (N : Nat) : Option Operand → Option (Option Rd)
  | none => some none
  | some x => (rd N x).map some

def isAggB (P : Program) (t : TypeId) : Option Bool :=
  match P.underlying t with
  | some (.struct _) => some true
  | some (.array _ _) => some true
  | some _ => some false
  | none => none
def sizeB (P : Program) (t : TypeId) : Option Nat := (P.info? t).map (·.size)
def zeroB (P : Program) (t : TypeId) : Option (List VV) :=
  match P.info? t with
  | some i => match i.zero with
    | some z => vvList z.cells.toList
    | none => none
  | none => none

/-- Parts of a struct or of an array, with their places. -/
def partsB (place : Nat → Option (Nat × Nat)) (N : Nat) : List (Nat × Operand) → Option (List (Nat × Nat × Rd))
  | [] => some []
  | (i, x) :: l => match place i, rd N x, partsB place N l with
    | some (off, n), some r, some s => some ((off, n, r) :: s)
    | _, _, _ => none
def structPlace (P : Program) (fields : Array Field) (i : Nat) : Option (Nat × Nat) :=
  match fields[i]? with
  | some f => (sizeB P f.type).map fun n => (f.offset, n)
  | none => none

/-- A type whose values are compared cell by cell, all of whose parts are integers, bools or strings. -/
def plainT (P : Program) : Nat → TypeId → Bool
  | 0, _ => false
  | d + 1, t => match P.underlying t with
    | some .bool => true
    | some (.int _) => true
    | some .string => true
    | some (.struct fs) => !P.stoodInHeld t && fs.toList.all fun f => f.name != "_" && plainT P d f.type
    | _ => false

def eqFs (fl : TypeId → Option (List Pr)) : Nat → List Field → Option (List Pr)
  | _, [] => some []
  | off, f :: l => match fl f.type with
    | some ps => if f.offset = off ∧ f.name ≠ "_" ∧ ps.length ≠ 0 then match eqFs fl (off + ps.length) l with
      | some qs => some (ps ++ qs)
      | none => none
      else none
    | none => none
/-- A struct's cells, if these are integers, bools and strings. -/
def eqT (P : Program) : Nat → TypeId → Option (List Pr)
  | 0, _ => none
  | d + 1, t => match P.underlying t with
    | some (.int k) => if sizeB P t = some 1 then some [.i k] else none
    | some .bool => if sizeB P t = some 1 then some [.b] else none
    | some .string => if sizeB P t = some 1 then some [.s] else none
    | some (.struct fs) => match eqFs (eqT P d) 0 fs.toList with
      | some ps => if sizeB P t = some ps.length ∧ P.stoodInHeld t = false then some ps else none
      | none => none
    | _ => none
def eqsI (P : Program) (op : BinOp) (t : TypeId) (x y : Rd) : Option I :=
  match eqT P 8 t with
  | some ps => if P.eqGuardType P.depth t = false then match op with
    | .eql => some (.eqs false ps x y)
    | .neq => some (.eqs true ps x y)
    | _ => none
    else none
  | none => none
theorem eqsI_is {P : Program} {op : BinOp} {t : TypeId} {x y : Rd} {i : I} (h : eqsI P op t x y = some i) : ∃ neg ps, i = .eqs neg ps x y := by
  unfold eqsI at h
  split at h
  · split at h
    · split at h <;> cases h <;> exact ⟨_, _, rfl⟩
    · cases h
  · cases h
def prT (P : Program) (t : TypeId) : Option Pr :=
  match P.underlying t with
  | some (.int k) => some (.i k)
  | some .bool => some .b
  | some .string => some .s
  | _ => none
def zeroV (P : Program) (t : TypeId) : Option VV :=
  match P.info? t with
  | some i => match i.zero with
    | some z => vvOf z
    | none => none
  | none => none
def mapI (P : Program) (t : TypeId) (f : Pr → TypeId → Option I) : Option I :=
  match P.underlying t with
  | some (.map kt et) => match prT P kt with
    | some pr => f pr et
    | none => none
  | _ => none
def mlkI (P : Program) (cok : Bool) (x k : Rd) (pr : Pr) (et : TypeId) : Option I := match zeroV P et with | some z => some (.mlk pr z cok x k) | none => none
def mupI (x k v : Rd) (pr : Pr) (_ : TypeId) : Option I := some (.mup pr x k v)
def mdlI (x k : Rd) (pr : Pr) (_ : TypeId) : Option I := some (.mdl pr x k)
theorem mapI_is {P : Program} {t : TypeId} {f : Pr → TypeId → Option I} {i : I} (h : mapI P t f = some i) : ∃ kt et pr, P.underlying t = some (.map kt et) ∧ prT P kt = some pr ∧ f pr et = some i := by
  unfold mapI at h
  split at h
  · rename_i kt et hu
    split at h
    · rename_i pr hp; exact ⟨kt, et, pr, hu, hp, h⟩
    · cases h
  · cases h
theorem mlkI_is {P : Program} {cok : Bool} {x k : Rd} {pr : Pr} {et : TypeId} {i : I} (h : mlkI P cok x k pr et = some i) : ∃ z, zeroV P et = some z ∧ i = .mlk pr z cok x k := by
  unfold mlkI at h
  split at h
  · rename_i z hz; cases h; exact ⟨z, hz, rfl⟩
  · cases h
def sameTmp : Operand → Operand → Bool
  | .tmp a, .tmp b => a == b
  | .const (.int _ a), .const (.int _ b) => a == b
  | _, _ => false

def methodB (P : Program) (name : String) (t : TypeId) : Option (TypeId × FuncId) :=
  match P.info? t, P.underlying t with
  | some i, some (.pointer _) => match i.methods.find? (·.name == name) with
    | some m => match m.path.toList, m.func with
      | [], some (f, true) => some (t, f)
      | _, _ => none
    | none => none
  | _, _ => none

def isConst : Operand → Bool
  | .const _ => true
  | _ => false
def eqI (pk : PK) (op : BinOp) (x y : Rd) : Option I :=
  match op with
  | .eql => some (.eqp pk false x y)
  | .neq => some (.eqp pk true x y)
  | _ => none

def compOp (P : Program) (cand : List TypeId) (N : Nat) (o : Oper) : Option I :=
  match o.op with
  | .move x => (rd N x).map .mov
  | .assign x => (rd N x).map .mov
  | .pick c a b => match rd N c, rd N a, rd N b with
    | some c, some a, some b => some (.pick c a b)
    | _, _, _ => none
  | .alloc t => (zeroB P t).map .new
  | .box _ x => (rd N x).map .box
  | .build t parts => match P.underlying t, zeroB P t with
    | some (.struct fs), some z => if fs.toList.all (fun f => (sizeB P f.type).isSome) then (partsB (structPlace P fs) N parts.toList).map (.build z) else none
    | some (.array _ e), some z => match sizeB P e with
      | some n => (partsB (fun i => some (i * n, n)) N parts.toList).map (.build z)
      | none => none
    | _, _ => none
  | .buildSlice t len parts => match P.underlying t with
    | some (.slice e) => match sizeB P e, zeroB P e with
      | some n, some z => if n = z.length ∧ n ≠ 0 ∧ len * n ≤ 2 ^ 24 then (partsB (fun i => some (i, n)) N parts.toList).map (.lit n len z) else none
      | _, _ => none
    | _ => none
  | .load t a => match isAggB P t, sizeB P t, rd N a with
    | some g, some n, some a => if g = true ∨ n = 1 then some (.ld n g a) else none
    | _, _, _ => none
  | .store t a v => match sizeB P t, rd N a, rd N v with
    | some n, some a, some v => some (.st n a v)
    | _, _, _ => none
  | .nilCheck x => (rd N x).map .chk
  | .binOp op t x' y' _ => match rd N x', rd N y' with
    | some x, some y => match P.underlying t with
      | some (.int _) => some (.bin op x y)
      | some .string => some (.bin op x y)
      | some (.struct _) => eqsI P op t x y
      | some .bool => eqI .bool op x y
      | some (.pointer _) => eqI .ptr op x y
      | some (.slice _) => eqI .sl op x y
      | some (.map _ _) => eqI .map op x y
      | some (.func _ _ _) => eqI .fn op x y
      | some (.interface _) => if isConst x' || isConst y' then eqI .iface op x y else none
      | _ => none
    | _, _ => none
  | .unOp op _ x => match op, rd N x with
    | .not, some x => some (.not x)
    | .neg, some x => some (.neg x)
    | _, _ => none
  | .convert s d x => match P.underlying s, P.underlying d, rd N x with
    | some (.int _), some (.int k), some x => some (.conv k x)
    | _, _, _ => none
  | .makeInterface t x => match P.underlying t, rd N x with
    | some (.interface _), _ => none
    | some _, some x => some (.iface t x)
    | _, _ => none
  | .makeFunc fn first cap => match fn with
    | .func f => match rds N first.toList, rds N cap.toList with
      | some a, some b => some (.fn f a b)
      | _, _ => none
    | _ => none
  | .makeSlice t l c => match P.underlying t, rd N l with
    | some (.slice e), some l' => match P.info? e, zeroB P e with
      | some i, some z => if sameTmp l c ∧ i.size = z.length ∧ i.size ≠ 0 then some (.mk i.size (281474976710656 / (i.bytes + 1)) z l') else none
      | _, _ => none
    | _, _ => none
  | .makeMap _ r => match r with
    | none => some .mkm
    | some _ => none
  | .lookup t x k cok => match rd N x, rd N k with
    | some x, some k => mapI P t (mlkI P cok x k)
    | _, _ => none
  | .mapUpdate t m k v => match rd N m, rd N k, rd N v with
    | some m, some k, some v => mapI P t (mupI m k v)
    | _, _, _ => none
  | .insert t m k v => match rd N m, rd N k, rd N v with
    | some m, some k, some v => mapI P t (mupI m k v)
    | _, _, _ => none
  | .makeChan t l => match P.underlying t, rd N l with
    | some (.chan _ e), some l' => match P.info? e with
      | some i => some (.mkc (281474976710000 / (i.bytes + 1)) l')
      | none => none
    | _, _ => none
  | .fieldAddr s x f => match P.underlying s, rd N x with
    | some (.struct fs), some x => match fs[f]? with
      | some fd => match sizeB P fd.type with
        | some n => if n = 0 then none else some (.fad fd.offset x)
        | none => none
      | none => none
    | _, _ => none
  | .field s x f => match P.underlying s, rd N x with
    | some (.struct fs), some x => match fs[f]? with
      | some fd => match sizeB P fd.type, isAggB P fd.type with
        | some n, some g => if g = true ∨ n = 1 then some (.fld fd.offset n g x) else none
        | _, _ => none
      | none => none
    | _, _ => none
  | .indexAddr t x i => match P.underlying t, rd N x, rd N i with
    | some (.slice e), some x, some i => (sizeB P e).map fun n => .iad n x i
    | some (.array len e), some x, some i => match sizeB P e with
      | some n => if len ≤ 1 ∨ n = 0 then none else some (.iada n len x i)
      | none => none
    | _, _, _ => none
  | .extract x i => (rd N x).map fun x => .ext x i
  | .slice t x lo hi mx => match P.underlying t, mx, rd N x, rdo N lo, rdo N hi with
    | some (.slice e), none, some x, some lo, some hi => (sizeB P e).map fun n => .sl n x lo hi
    | _, _, _, _, _ => none
  | .call c => match rds N c.args.toList with
    | none => none
    | some args => match c.callee with
      | .value (.func f) => some (.call f args)
      | .value (.tmp t) => (rd N (.tmp t)).map fun x => .callv x args
      | .invoke r name => (rd N r).map fun x => .inv x (cand.filterMap (methodB P name)) args
      | .builtin .len => match args, c.argTypes[0]? with
        | [x], some t => match P.underlying t with
          | some (.slice _) => some (.len x)
          | some .string => some (.slen x)
          | some (.chan _ _) => some (.clen x)
          | some (.map _ _) => some (.mlen x)
          | _ => none
        | _, _ => none
      | .builtin .copy => match args, c.argTypes[0]?, c.argTypes[1]? with
        | [x, y], some t, some u => match P.underlying t, P.underlying u with
          | some (.slice e), some (.slice e') => match sizeB P e with
            | some n => if e = e' ∧ n ≠ 0 then some (.cpy n x y) else none
            | none => none
          | _, _ => none
        | _, _, _ => none
      | .builtin .delete => match args, c.argTypes[0]? with
        | [x, k], some t => mapI P t (mdlI x k)
        | _, _ => none
      | .builtin .min => match args with | [x, y] => some (.mn x y) | _ => none
      | .builtin .max => match args with | [x, y] => some (.mx x y) | _ => none
      | .builtin .append => match args, c.argTypes[0]?, c.argTypes[1]? with
        | [x, y], some t, some u => match P.underlying t, P.underlying u with
          | some (.slice e), some (.slice e') => match P.info? e with
            | some i => if e = e' ∧ t = u ∧ i.size ≠ 0 ∧ i.bytes ≠ 0 ∧ (i.zero.map fun z => decide (z.cells.size = i.size)) = some true then some (.app i.size i.bytes x y) else none
            | none => none
          | _, _ => none
        | _, _, _ => none
      | _ => none
  | _ => none

def bindsB (e : Edge) : Bool := Region.binds .any e

def dstB (N : Nat) : Option Tmp → Bool
  | some d => decide (d < N)
  | none => true

def compOps (P : Program) (cand : List TypeId) (N : Nat) (all : Array Oper) : List Oper → Option (List IOp)
  | [] => some []
  | o :: l => match compOp P cand N o, compOps P cand N all l with
    | some i, some r =>
      if dstB N o.dst = true then
        match o.guard with
        | none => some ({ dst := o.dst, op := i, guard := none, after := (o.after.toList.filter bindsB).map (·.on) } :: r)
        | some (j, want) => match (all[j]?).bind (·.dst) with
          | some d => if d < N then some ({ dst := o.dst, op := i, guard := some (d, want), after := (o.after.toList.filter bindsB).map (·.on) } :: r) else none
          | none => none
      else none
    | _, _ => none

/-- Which ops come ahead of which, by their edges: for each a number whose bits are the ops. -/
def masks : List IOp → List Nat → List Nat
  | [], acc => acc
  | i :: l, acc => masks l (acc ++ [i.after.foldl (fun s p => s ||| 2 ^ p ||| (acc[p]?).getD 0) 0])
/-- Does it change the heap, or may? -/
def kindOf : I → DK
  | .st .. => .e | .call .. => .e | .callv .. => .e | .inv .. => .e | .app .. => .e
  | .new .. => .e | .box .. => .e | .lit .. => .e | .mk .. => .e | .mkc .. => .e | .clen .. => .e | .mlen .. => .e | .cpy .. => .e | .mkm => .e | .mlk .. => .e | .mup .. => .e | .mdl .. => .e
  | _ => .q
def number : List IOp → Nat → List DS
  | [], _ => []
  | i :: l, n => ⟨kindOf i.op, n, i⟩ :: number l (n + 1)
/-- The steps that may be taken early first: whatever only looks goes ahead of the next change. -/
def pickQ (ms : List Nat) (todo : List DS) (s : DS) : Bool :=
  match s.k with
  | .q => todo.all fun t => t.j == s.j || !(((ms[s.j]?).getD 0).testBit t.j)
  | _ => false
def freeF : I → Bool
  | .new _ => true | .box _ => true | .lit .. => true | .mkm => true | .mk .. => true | _ => false
def unord (ms : List Nat) (a b : Nat) : Bool := !(((ms[a]?).getD 0).testBit b) && !(((ms[b]?).getD 0).testBit a)
def isEK (s : DS) : Bool := match s.k with | .e => true | _ => false
def markF (ms : List Nat) (all : List DS) : List DS → List Nat → List DS
  | [], _ => []
  | s :: t, mk =>
    if freeF s.io.op && s.io.guard.isNone && (all.any fun y => isEK y && y.j != s.j && unord ms s.j y.j) && !(mk.any fun m => ((ms[s.j]?).getD 0).testBit m)
    then { s with k := .f } :: markF ms all t (s.j :: mk) else s :: markF ms all t mk
def readyB (ms : List Nat) (todo : List DS) (s : DS) : Bool := todo.all fun u => u.j == s.j || !(((ms[s.j]?).getD 0).testBit u.j)
def sched (ms : List Nat) : Nat → List DS → List DS
  | 0, _ => []
  | fuel + 1, todo => match todo.find? (pickQ ms todo) with
    | some s => s :: sched ms fuel (todo.filter fun t => t.j != s.j)
    | none => match todo.find? (fun s => isEK s && readyB ms todo s) with
      | some s => s :: sched ms fuel (todo.filter fun t => t.j != s.j)
      | none => match todo.find? (readyB ms todo) with
        | some s => s :: sched ms fuel (todo.filter fun t => t.j != s.j)
        | none => []
def isF (s : DS) : Bool := match s.k with | .f => true | _ => false
def apartB (all : Array Oper) (x y : DS) : Bool := ((all[x.j]?).bind fun a => (all[y.j]?).map fun b => Oper.apart all a b).getD false
/-- Is this order one that stands for all? -/
def chk (all : Array Oper) : List DS → Bool
  | [] => true
  | s :: t =>
    !(anyNat (s.j :: jsOf t) s.io.after) &&
    t.all (fun y => y.j != s.j &&
      (match s.k with
        | .q => hasNat y.io.after s.j || apartB all s y
        | _ => isF y || anyNat (s.j :: jsOf (t.filter fun z => !isF z)) y.io.after) &&
      (!isF y || ((hasNat y.io.after s.j || apartB all s y) && !(isF s && hasNat y.io.after s.j)))) &&
    (!isF s || (s.io.guard.isNone && freeF s.io.op)) && chk all t
def schedOk (all : Array Oper) (l : List IOp) (sch : List DS) : Bool :=
  chk all sch && sch.length == l.length && sch.all (fun s => decide (s.j < l.length)) &&
  (List.range l.length).all (fun j => sch.any fun s => s.j == j) && Region.noSelect all &&
  l.all (fun i => i.after.all fun p => decide (p < l.length))
def order (l : List IOp) : List DS :=
  let ms := masks l []
  let ds := number l 0
  sched ms (l.length + 1) (markF ms ds ds [])

def comp (P : Program) (cand : List TypeId) (N : Nat) : Code → Option IC
  | .skip => some .skip
  | .region _ ops draw => match compOps P cand N ops ops.toList with
    | some l => match draw with
      | true =>
        if schedOk ops l (order l) = true then some (.draw (order l)) else none
      | false => some (.region l)
    | none => none
  | .seq a b => match comp P cand N a, comp P cand N b with
    | some x, some y => some (.seq x y)
    | _, _ => none
  | .cond c a b => match rd N c, comp P cand N a, comp P cand N b with
    | some c, some x, some y => some (.cond c x y)
    | _, _, _ => none
  | .block id b => (comp P cand N b).map (.block id)
  | .scope b => comp P cand N b
  | .loop b => (comp P cand N b).map .loop
  | .exit id => some (.exit id)
  | .ret => some .ret
  | .label _ => some .label
  | _ => none

/-! ### What the operations yield that look at their operands alone -/

/-- An operand's value stands for what the frame holds. -/
def RdR (φ : Phi) (N : Nat) (env : Env) (a : Act) (x : Operand) : Prop := ∀ r, rd N x = some r → den φ (r.ev env) = some (a.eval x)

theorem rds_den {φ : Phi} {N : Nat} {env : Env} {a : Act} : ∀ {l : List Operand} {r : List Rd}, rds N l = some r → (∀ x ∈ l, RdR φ N env a x) → denL φ (evs env r) = some (l.map a.eval)
  | [], r, h, _ => by simp [rds] at h; subst h; rfl
  | x :: l, r, h, hx => by
    simp only [rds] at h
    split at h
    · rename_i y s hy hs
      cases h
      exact denL_cons.2 ⟨_, _, hx x (by simp) y hy, rds_den hs (fun z hz => hx z (by simp [hz])), rfl⟩
    · cases h

theorem rdn_spec : ∀ {cs : List VV} {off n : Nat} {l : List VV}, rdn cs off n = some l → off + n ≤ cs.length ∧ l = (cs.drop off).take n
  | _, 0, 0, l, h => by simp [rdn] at h; subst h; simp
  | a :: cs, 0, n + 1, l, h => by
    simp only [rdn] at h
    split at h
    · rename_i r hr
      cases h
      obtain ⟨h1, h2⟩ := rdn_spec hr
      refine ⟨by simp; omega, ?_⟩
      simpa using h2
    · cases h
  | [], 0, n + 1, l, h => by simp [rdn] at h
  | a :: cs, o + 1, n, l, h => by
    simp only [rdn] at h
    obtain ⟨h1, h2⟩ := rdn_spec h
    exact ⟨by simp; omega, by simpa using h2⟩
  | [], o + 1, n, l, h => by simp [rdn] at h

theorem wrn_spec : ∀ {cs : List VV} {off : Nat} {xs l : List VV}, wrn cs off xs = some l → off + xs.length ≤ cs.length ∧ l = cs.take off ++ xs ++ cs.drop (off + xs.length)
  | cs, 0, [], l, h => by simp [wrn] at h; subst h; simp
  | a :: cs, 0, x :: xs, l, h => by
    simp only [wrn] at h
    split at h
    · rename_i r hr
      cases h
      obtain ⟨h1, h2⟩ := wrn_spec hr
      refine ⟨by simp at h1 ⊢; omega, ?_⟩
      subst h2
      simp [Nat.add_comm]
    · cases h
  | [], 0, x :: xs, l, h => by simp [wrn] at h
  | a :: cs, o + 1, xs, l, h => by
    simp only [wrn] at h
    split at h
    · rename_i r hr
      cases h
      obtain ⟨h1, h2⟩ := wrn_spec hr
      refine ⟨by simp; omega, ?_⟩
      subst h2
      have : o + 1 + xs.length = (o + xs.length) + 1 := by omega
      rw [this]
      simp
    · cases h
  | [], o + 1, xs, l, h => by simp [wrn] at h

theorem llen_eq {α : Type} : ∀ l : List α, llen l = l.length
  | [] => rfl
  | _ :: l => by simp [llen, llen_eq l]
theorem lget_eq {α : Type} : ∀ (l : List α) (n : Nat), lget l n = l[n]?
  | [], n => by simp [lget]
  | a :: l, 0 => by simp [lget]
  | a :: l, n + 1 => by simp [lget, lget_eq l n]
theorem lset_eq {α : Type} : ∀ (l : List α) (n : Nat) (x : α), lset l n x = l.set n x
  | [], n, x => by simp [lset]
  | a :: l, 0, x => by simp [lset]
  | a :: l, n + 1, x => by simp [lset, lset_eq l n x]
theorem lapp_eq {α : Type} : ∀ (l m : List α), lapp l m = l ++ m
  | [], m => rfl
  | a :: l, m => by simp [lapp, lapp_eq l m]
theorem lrep_eq {α : Type} : ∀ (n : Nat) (x : α), lrep n x = List.replicate n x
  | 0, x => rfl
  | n + 1, x => by simp [lrep, lrep_eq n x, List.replicate_succ]

end Go.SL
