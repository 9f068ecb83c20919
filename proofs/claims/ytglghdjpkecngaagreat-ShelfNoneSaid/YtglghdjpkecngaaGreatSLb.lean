/- A symbolic executor over the model: the small code that it runs, and the condition that it computes. -/
import Derived.Test.YtglghdjpkecngaaGreatSLa
namespace Go.SL

/-- An operand. -/
inductive Rd where
  | t (n : Nat)
  | c (v : VV)

abbrev Env := Nat → VV

def Rd.ev (env : Env) : Rd → VV
  | .t n => env n
  | .c v => v
def evs (env : Env) : List Rd → List VV
  | [] => []
  | x :: l => x.ev env :: evs env l

/-- What one cell of a flat value is. -/
inductive Pr where
  | i (k : IntKind)
  | b
  | s
/-- Kinds of what is held against nil. -/
inductive PK where
  | bool | ptr | sl | map | fn | iface

/-- Operations, their types resolved. -/
inductive I where
  | mov (x : Rd)
  | pick (c a b : Rd)
  | new (zs : List VV)
  | box (x : Rd)
  | build (zero : List VV) (parts : List (Nat × Nat × Rd))
  | lit (esz len : Nat) (zero : List VV) (parts : List (Nat × Nat × Rd))
  | ld (n : Nat) (agg : Bool) (a : Rd)
  | st (n : Nat) (a v : Rd)
  | chk (x : Rd)
  | bin (op : BinOp) (x y : Rd)
  | eqp (pk : PK) (neg : Bool) (x y : Rd)
  | eqs (neg : Bool) (ps : List Pr) (x y : Rd)
  | mkc (bytes : Nat) (len : Rd)
  | clen (x : Rd)
  | mlen (x : Rd)
  | cpy (esz : Nat) (x y : Rd)
  | mkm
  | mlk (pr : Pr) (z : VV) (cok : Bool) (x k : Rd)
  | mup (pr : Pr) (x k v : Rd)
  | mdl (pr : Pr) (x k : Rd)
  | not (x : Rd)
  | neg (x : Rd)
  | conv (k : IntKind) (x : Rd)
  | iface (t : TypeId) (x : Rd)
  | fn (f : FuncId) (first cap : List Rd)
  | fad (off : Nat) (x : Rd)
  | fld (off n : Nat) (agg : Bool) (x : Rd)
  | iad (esz : Nat) (x i : Rd)
  | iada (esz len : Nat) (x i : Rd)
  | ext (x : Rd) (i : Nat)
  | len (x : Rd)
  | slen (x : Rd)
  | mk (esz bytes : Nat) (zero : List VV) (len : Rd)
  | sl (esz : Nat) (x : Rd) (lo hi : Option Rd)
  | mn (x y : Rd)
  | mx (x y : Rd)
  | app (esz bytes : Nat) (x y : Rd)
  | call (f : FuncId) (args : List Rd)
  | callv (x : Rd) (args : List Rd)
  | inv (x : Rd) (tbl : List (TypeId × FuncId)) (args : List Rd)

structure IOp where
  dst : Option Nat
  op : I
  guard : Option (Nat × Bool)
  after : List Nat

/- q: it looks at the heap alone; e: it may change it; f: it makes a block, and may be drawn ahead of what is not bound to it -/
inductive DK where
  | q | e | f
structure DS where
  k : DK
  j : Nat
  io : IOp


inductive IC where
  | skip
  | region (ops : List IOp)
  | draw (sch : List DS)
  | seq (a b : IC)
  | cond (c : Rd) (a b : IC)
  | block (id : Nat) (b : IC)
  | loop (b : IC)
  | exit (id : Nat)
  | ret
  | label

def isEq : BinOp → Bool
  | .eql => true | .neq => true | _ => false

/-- Integer arithmetic, as the model has it; the comparisons are `icmp`. -/
def arith (op : BinOp) (k : IntKind) (x y : Int) : Int :=
  match op with
  | .add => k.wrap (x + y)
  | .sub => k.wrap (x - y)
  | .mul => k.wrap (x * y)
  | .quo => k.wrap (x.tdiv y)
  | .rem => x.tmod y
  | .and => k.wrap (BitVec.ofInt k.bits x &&& BitVec.ofInt k.bits y).toNat
  | .or => k.wrap (BitVec.ofInt k.bits x ||| BitVec.ofInt k.bits y).toNat
  | .xor => k.wrap (BitVec.ofInt k.bits x ^^^ BitVec.ofInt k.bits y).toNat
  | .andNot => k.wrap (BitVec.ofInt k.bits x &&& ~~~BitVec.ofInt k.bits y).toNat
  | .shl => k.wrap (x * 2 ^ min y.toNat k.bits)
  | .shr => x.fdiv (2 ^ min y.toNat k.bits)
  | _ => 0
def icmp (op : BinOp) (x y : Int) : Bool :=
  match op with
  | .eql => x == y
  | .neq => x != y
  | .lss => decide (x < y)
  | .leq => decide (x ≤ y)
  | .gtr => decide (x > y)
  | .geq => decide (x ≥ y)
  | _ => false
/-- What must hold lest it panics; 'none': nothing. -/
def needs (op : BinOp) (_x y : Int) : Bool :=
  match op with
  | .quo => y != 0
  | .rem => y != 0
  | .shl => decide (0 ≤ y)
  | .shr => decide (0 ≤ y)
  | _ => true
inductive Sort3 | ar | arN | cmp
def sortOf : BinOp → Sort3
  | .add => .ar | .sub => .ar | .mul => .ar | .and => .ar | .or => .ar | .xor => .ar | .andNot => .ar
  | .quo => .arN | .rem => .arN | .shl => .arN | .shr => .arN
  | .eql => .cmp | .neq => .cmp | .lss => .cmp | .leq => .cmp | .gtr => .cmp | .geq => .cmp

def strEq (a b : ByteArray) : Bool := a.toList == b.toList

/-- Equality of values cell by cell (integers, bools, strings alone; else false: not used). -/
def eqV : VV → VV → Bool
  | .int _ a, .int _ b => a == b
  | .bool a, .bool b => a == b
  | .str a, .str b => strEq a b
  | _, _ => false
def eqL : List VV → List VV → Bool
  | [], [] => true
  | a :: l, b :: m => eqV a b && eqL l m
  | _, _ => false
def matV : List Pr → List VV → Bool
  | [], [] => true
  | .i k :: ps, .int k' _ :: l => match decide (k = k') with | true => matV ps l | false => false
  | .b :: ps, .bool _ :: l => matV ps l
  | .s :: ps, .str _ :: l => matV ps l
  | _, _ => false
/-- Elements laid over others from a place on. -/
def ovlF (xs : List (List VV)) (s : Nat) (ys : List (List VV)) (k : Nat) : List (List VV) := xs.take s ++ ys.take k ++ xs.drop (s + k)
/-! Maps: keys and values, in their order. -/
def keyOk : Pr → VV → Bool
  | .i k, .int k' _ => decide (k = k')
  | .b, .bool _ => true
  | .s, .str _ => true
  | _, _ => false
def kallF (pr : Pr) (ks : List VV) : Bool := ks.all (keyOk pr)
def kfind : List VV → VV → Option Nat
  | [], _ => none
  | e :: l, k => if eqV k e then some 0 else (kfind l k).map (· + 1)
def mvalF (ks vs : List VV) (k : VV) : Option VV := (kfind ks k).bind fun i => vs[i]?
def mksF (ks : List VV) (k : VV) : List VV := match kfind ks k with | some _ => ks | none => ks ++ [k]
def mvsF (ks vs : List VV) (k v : VV) : List VV := match kfind ks k with | some i => vs.set i v | none => vs ++ [v]
def dksF (ks : List VV) (k : VV) : List VV := match kfind ks k with | some i => ks.eraseIdx i | none => ks
def dvsF (ks vs : List VV) (k : VV) : List VV := match kfind ks k with | some i => vs.eraseIdx i | none => vs
def plainV : VV → Bool
  | .int _ _ => true | .bool _ => true | .str _ => true | _ => false
def samePlain : VV → VV → Bool
  | .int k _, .int k' _ => decide (k = k')
  | .bool _, .bool _ => true
  | .str _, .str _ => true
  | _, _ => false
def sameKinds : List VV → List VV → Bool
  | [], [] => true
  | a :: l, b :: m => match samePlain a b with | true => sameKinds l m | false => false
  | _, _ => false

/-- What the executor keeps closed; each field is said by its equation. -/
structure Ops (EV : FuncId → List VV → List VB → (VV → List VB → Prop) → Prop) (RE : (Env → List VB → Prop) → Env → List VB → Prop) where
  ar : BinOp → IntKind → Int → Int → Int
  cmp : BinOp → Int → Int → Bool
  need : BinOp → Int → Int → Bool
  wr : IntKind → Int → Int
  not : Bool → Bool
  beq : Bool → Bool → Bool
  sel : Bool → Bool → Bool → Bool
  steq : ByteArray → ByteArray → Bool
  eqs : List VV → List VV → Bool
  len : List VV → Nat
  nmn : Nat → Nat → Nat
  ovl : List (List VV) → Nat → List (List VV) → Nat → List (List VV)
  kall : Pr → List VV → Bool
  mval : List VV → List VV → VV → Option VV
  mks : List VV → VV → List VV
  mvs : List VV → List VV → VV → VV → List VV
  dks : List VV → VV → List VV
  dvs : List VV → List VV → VV → List VV
  inb : Int → Nat → Bool
  mn : Int → Int → Int
  mx : Int → Int → Int
  nat : Int → Nat
  nadd : Nat → Nat → Nat
  nmul : Nat → Nat → Nat
  nle : Nat → Nat → Bool
  get : List (List VV) → Nat → Option (List VV)
  set : List (List VV) → Nat → List VV → List (List VV)
  cat : List (List VV) → List (List VV) → List (List VV)
  rep : Nat → List VV → List (List VV)
  sub : List (List VV) → Nat → Nat → List (List VV)
  size : ByteArray → Nat
  nsub : Nat → Nat → Nat
  soff : Nat → Nat → Nat → Nat
  slb : Int → Int → Nat → Bool
  slv : Int → Int → Nat → Bool
  ll : List (List VV) → Nat
  all1 : List (List VV) → Bool
  re : (Env → List VB → Prop) → Env → List VB → Prop
  ev : FuncId → List VV → List VB → (VV → List VB → Prop) → Prop
  ar_eq : ar = arith
  cmp_eq : cmp = icmp
  need_eq : need = needs
  wr_eq : wr = IntKind.wrap
  not_eq : not = Bool.not
  beq_eq : beq = fun a b => a == b
  sel_eq : sel = fun c a b => match c with | true => a | false => b
  steq_eq : steq = strEq
  eqs_eq : eqs = eqL
  len_eq : len = List.length
  nmn_eq : nmn = Nat.min
  ovl_eq : ovl = ovlF
  kall_eq : kall = kallF
  mval_eq : mval = mvalF
  mks_eq : mks = mksF
  mvs_eq : mvs = mvsF
  dks_eq : dks = dksF
  dvs_eq : dvs = dvsF
  inb_eq : inb = fun (i : Int) (n : Nat) => decide (0 ≤ i ∧ i < (n : Int))
  mn_eq : mn = fun x y => if y < x then y else x
  mx_eq : mx = fun x y => if y > x then y else x
  nat_eq : nat = Int.toNat
  nadd_eq : nadd = fun a b => a + b
  nmul_eq : nmul = fun a b => a * b
  nle_eq : nle = fun a b => decide (a ≤ b)
  get_eq : get = fun l i => l[i]?
  set_eq : set = fun l i x => l.set i x
  cat_eq : cat = fun a b => a ++ b
  rep_eq : rep = List.replicate
  sub_eq : sub = fun l a n => (l.drop a).take n
  size_eq : size = ByteArray.size
  nsub_eq : nsub = fun a b => a - b
  soff_eq : soff = fun s l c => if c = l then s else s + l
  slb_eq : slb = fun (l h : Int) (c : Nat) => decide (0 ≤ l ∧ l ≤ h ∧ h ≤ (c : Int))
  slv_eq : slv = fun (l h : Int) (n : Nat) => decide (0 ≤ l ∧ l ≤ h ∧ h ≤ (n : Int) ∧ (l = 0 ∨ l < (n : Int)))
  ll_eq : ll = List.length
  all1_eq : all1 = fun l => l.all allOne
  re_eq : re = RE
  ev_eq : ev = EV

def ops (EV : FuncId → List VV → List VB → (VV → List VB → Prop) → Prop) (RE : (Env → List VB → Prop) → Env → List VB → Prop) : Ops EV RE :=
  { ar := _, cmp := _, need := _, wr := _, not := _, beq := _, sel := _, steq := _, eqs := _, len := _, nmn := _, ovl := _, kall := _, mval := _, mks := _, mvs := _, dks := _, dvs := _, inb := _, mn := _, mx := _, nat := _, nadd := _, nmul := _, nle := _, get := _, set := _, cat := _, rep := _, sub := _, size := _, nsub := _, soff := _, slb := _, slv := _, ll := _, all1 := _, re := _, ev := _
    ar_eq := rfl, cmp_eq := rfl, need_eq := rfl, wr_eq := rfl, not_eq := rfl, beq_eq := rfl, sel_eq := rfl, steq_eq := rfl, eqs_eq := rfl, len_eq := rfl, nmn_eq := rfl, ovl_eq := rfl, kall_eq := rfl, mval_eq := rfl, mks_eq := rfl, mvs_eq := rfl, dks_eq := rfl, dvs_eq := rfl, inb_eq := rfl, mn_eq := rfl, mx_eq := rfl, nat_eq := rfl, nadd_eq := rfl, nmul_eq := rfl, nle_eq := rfl, get_eq := rfl, set_eq := rfl, cat_eq := rfl, rep_eq := rfl, sub_eq := rfl, size_eq := rfl, nsub_eq := rfl, soff_eq := rfl, slb_eq := rfl, slv_eq := rfl, ll_eq := rfl, all1_eq := rfl, re_eq := rfl, ev_eq := rfl }

/-! Lists, by recursion that computes. -/
def lget {α : Type} : List α → Nat → Option α
  | [], _ => none
  | a :: _, 0 => some a
  | _ :: l, n + 1 => lget l n
def lset {α : Type} : List α → Nat → α → List α
  | [], _, _ => []
  | _ :: l, 0, x => x :: l
  | a :: l, n + 1, x => a :: lset l n x
def llen {α : Type} : List α → Nat
  | [] => 0
  | _ :: l => llen l + 1
def lapp {α : Type} : List α → List α → List α
  | [], m => m
  | a :: l, m => a :: lapp l m
/-- n cells from a place on. -/
def rdn (cs : List VV) (off n : Nat) : Option (List VV) :=
  match cs, off, n with
  | _, 0, 0 => some []
  | a :: l, 0, n + 1 => match rdn l 0 n with
    | some r => some (a :: r)
    | none => none
  | _ :: l, o + 1, n => rdn l o n
  | [], _ + 1, _ => none
  | [], 0, _ + 1 => none
/-- Cells laid over others from a place on. -/
def wrn (cs : List VV) (off : Nat) (xs : List VV) : Option (List VV) :=
  match cs, off, xs with
  | cs, 0, [] => some cs
  | _ :: l, 0, x :: xs => match wrn l 0 xs with
    | some r => some (x :: r)
    | none => none
  | a :: l, o + 1, xs => match wrn l o xs with
    | some r => some (a :: r)
    | none => none
  | [], _ + 1, _ => none
  | [], 0, _ :: _ => none
def pack (agg : Bool) (l : List VV) : Option VV :=
  match agg with
  | true => some (.agg l)
  | false => match l with
    | [v] => some v
    | _ => none
def fillV (env : Env) : List VV → List (Nat × Nat × Rd) → Option (List VV)
  | cells, [] => some cells
  | cells, (off, n, x) :: rest =>
    match Nat.beq (llen (x.ev env).cells) n with
    | true => match wrn cells off (x.ev env).cells with
      | some c => fillV env c rest
      | none => none
    | false => none

section
variable {EV : FuncId → List VV → List VB → (VV → List VB → Prop) → Prop} {RE : (Env → List VB → Prop) → Env → List VB → Prop} (o : Ops EV RE)

def eqNil : PK → VV → VV → Option Bool
  | .ptr, .nilPtr, .nilPtr => some true
  | .ptr, .nilPtr, .ptr _ _ => some false
  | .ptr, .nilPtr, .elt _ _ _ _ => some false
  | .ptr, .ptr _ _, .nilPtr => some false
  | .ptr, .elt _ _ _ _, .nilPtr => some false
  | .sl, .nilSl, .nilSl => some true
  | .sl, .sl _ _ _ _ _, .nilSl => some false
  | .iface, .nilIface, .iface _ _ => some false
  | .iface, .iface _ _, .nilIface => some false
  | .iface, .nilIface, .nilIface => some true
  | .fn, .nilFn, .nilFn => some true
  | .fn, .fn _ _ _, .nilFn => some false
  | .map, .nilMap, .nilMap => some true
  | .map, .map _, .nilMap => some false
  | _, _, _ => none

/-- What an operation yields that looks at its operands alone, and what must hold for that. -/
def pval (op : I) (env : Env) : Option (VV × Option Bool) :=
  match op with
  | .mov x => some (x.ev env, none)
  | .pick c a b => match c.ev env with
    | .bool t => match t with
      | true => some (a.ev env, none)
      | false => some (b.ev env, none)
    | _ => none
  | .build zero parts => match fillV env zero parts with
    | some cs => some (.agg cs, none)
    | none => none
  | .chk x => match x.ev env with
    | .ptr i f => some (.ptr i f, none)
    | .elt i e j f => some (.elt i e j f, none)
    | .fn f a b => some (.fn f a b, none)
    | _ => none
  | .bin op x y => match x.ev env, y.ev env with
    | .int k a, .int k' b => match sortOf op with
      | .ar => match decide (k = k') with
        | true => some (.int k (o.ar op k a b), none)
        | false => none
      | .arN => match op with
        | .shl => some (.int k (o.ar op k a b), some (o.need op a b))
        | .shr => some (.int k (o.ar op k a b), some (o.need op a b))
        | _ => match decide (k = k') with
          | true => some (.int k (o.ar op k a b), some (o.need op a b))
          | false => none
      | .cmp => match decide (k = k') with
        | true => some (.bool (o.cmp op a b), none)
        | false => none
    | .str a, .str b => match op with
      | .eql => some (.bool (o.steq a b), none)
      | .neq => some (.bool (o.not (o.steq a b)), none)
      | _ => none
    | _, _ => none
  | .eqp .bool neg x y => match x.ev env, y.ev env with
    | .bool a, .bool b => match neg with
      | true => some (.bool (o.not (o.beq a b)), none)
      | false => some (.bool (o.beq a b), none)
    | _, _ => none
  | .eqp pk neg x y => match eqNil pk (x.ev env) (y.ev env) with
    | some b => match neg with
      | true => some (.bool (o.not b), none)
      | false => some (.bool b, none)
    | none => none
  | .eqs neg ps x y => match x.ev env, y.ev env with
    | .agg a, .agg b => match matV ps a with
      | true => match matV ps b with
        | true => match neg with
          | true => some (.bool (o.not (o.eqs a b)), none)
          | false => some (.bool (o.eqs a b), none)
        | false => none
      | false => none
    | _, _ => none
  | .not x => match x.ev env with
    | .bool b => some (.bool (o.not b), none)
    | _ => none
  | .neg x => match x.ev env with
    | .int k n => some (.int k (o.ar .sub k 0 n), none)
    | _ => none
  | .conv k x => match x.ev env with
    | .int _ n => some (.int k (o.wr k n), none)
    | _ => none
  | .iface t x => some (.iface t (x.ev env), none)
  | .fn f a b => some (.fn f (evs env a) (evs env b), none)
  | .fad off x => match x.ev env with
    | .ptr i f => some (.ptr i (Nat.add f off), none)
    | .elt i e j f => some (.elt i e j (Nat.add f off), none)
    | _ => none
  | .fld off n agg x => match x.ev env with
    | .agg cs => match rdn cs off n with
      | some l => match pack agg l with
        | some v => some (v, none)
        | none => none
      | none => none
    | _ => none
  | .iad esz x i => match unO (x.ev env), i.ev env with
    | .sl id e s n _, .int _ j => match Nat.beq e esz with
      | true => some (.elt id e (o.nadd s (o.nat j)) 0, some (o.inb j n))
      | false => none
    | _, _ => none
  | .sl esz x lo hi => match x.ev env with
    | .sl id e s n (.v c) => match Nat.beq e esz with
      | true => match lo, hi with
        | none, none => some (.sl id e s n (.v c), none)
        | none, some h => match h.ev env with
          | .int _ h => some (.sl id e s (o.nat h) (.v c), some (o.slb 0 h n))
          | _ => none
        | some l, none => match l.ev env with
          | .int _ l => some (.sl id e (o.nadd s (o.nat l)) (o.nsub n (o.nat l)) (.v c), some (o.slv l (Int.ofNat n) n))
          | _ => none
        | some l, some h => match l.ev env, h.ev env with
          | .int _ l, .int _ h => some (.sl id e (o.nadd s (o.nat l)) (o.nsub (o.nat h) (o.nat l)) (.v c), some (o.slv l h n))
          | _, _ => none
      | false => none
    | .sl id e s n (.n c) => match Nat.beq e esz with
      | true => match lo, hi with
        | none, none => some (.sl id e s n (.n c), none)
        | none, some h => match h.ev env with
          | .int _ h => some (.sl id e s (o.nat h) (.n c), some (o.slb 0 h c))
          | _ => none
        | some l, none => match l.ev env with
          | .int _ l => some (.sl id e (o.soff s (o.nat l) c) (o.nsub n (o.nat l)) (.n (o.nsub c (o.nat l))), some (o.slb l (Int.ofNat n) c))
          | _ => none
        | some l, some h => match l.ev env, h.ev env with
          | .int _ l, .int _ h => some (.sl id e (o.soff s (o.nat l) c) (o.nsub (o.nat h) (o.nat l)) (.n (o.nsub c (o.nat l))), some (o.slb l h c))
          | _, _ => none
      | false => none
    | _ => none
  | .ext x i => match x.ev env with
    | .tup vs => match lget vs i with
      | some v => some (v, none)
      | none => none
    | _ => none
  | .len x => match x.ev env with
    | .sl _ _ _ n _ => some (.int .i64 (Int.ofNat n), none)
    | .osl _ _ _ n _ => some (.int .i64 (Int.ofNat n), none)
    | .nilSl => some (.int .i64 (Int.ofNat 0), none)
    | _ => none
  | .slen x => match x.ev env with
    | .str s => some (.int .i64 (Int.ofNat (o.size s)), none)
    | _ => none
  | .mn x y => match x.ev env, y.ev env with
    | .int k a, .int _ b => some (.int k (o.mn a b), none)
    | _, _ => none
  | .mx x y => match x.ev env, y.ev env with
    | .int k a, .int _ b => some (.int k (o.mx a b), none)
    | _, _ => none
  | _ => none

/-- What a load yields. -/
def lval (op : I) (env : Env) (V : List VB) : Option VV :=
  match op with
  | .ld n agg a => match a.ev env with
    | .ptr i off => match lget V i with
      | some (.cells cs) => match rdn cs off n with
        | some l => pack agg l
        | none => none
      | _ => none
    | .elt i e j off => match lget V i with
      | some (.arr e' xs _) => match Nat.beq e e' with
        | true => match o.get xs j with
          | some cs => match rdn cs off n with
            | some l => pack agg l
            | none => none
          | none => none
        | false => none
      | some (.ro e' xs) => match Nat.beq e e' with
        | true => match o.get xs j with
          | some cs => match rdn cs off n with
            | some l => pack agg l
            | none => none
          | none => none
        | false => none
      | _ => none
    | _ => none
  | _ => none

/-- What an operation makes that makes a block: the block, the value at its number, what must hold. -/
def litCells (env : Env) : List (List VV) → List (Nat × Nat × Rd) → Option (List (List VV))
  | xs, [] => some xs
  | xs, (i, n, x) :: rest =>
    match Nat.beq (llen (x.ev env).cells) n with
    | true => match lget xs i with
      | some _ => litCells env (lset xs i (x.ev env).cells) rest
      | none => none
    | false => none
def lrep {α : Type} : Nat → α → List α
  | 0, _ => []
  | n + 1, x => x :: lrep n x
def fresh (op : I) (env : Env) (n : Nat) : Option (VB × VV × Option Bool) :=
  match op with
  | .new zs => some (.cells zs, .ptr n 0, none)
  | .box x => some (.cells (x.ev env).cells, .ptr n 0, none)
  | .lit esz len zero parts => match litCells env (lrep len zero) parts with
    | some xs => some (.arr esz xs (.n (Nat.mul len esz)), .sl n esz 0 len (.n len), none)
    | none => none
  | .mk esz bytes zero len => match len.ev env with
    | .int _ k => some (.arr esz (o.rep (o.nat k) zero) (.n (o.nmul (o.nat k) esz)), .sl n esz 0 (o.nat k) (.n (o.nat k)), some (o.inb k bytes))
    | _ => none
  | .mkm => some (.map [] [], .map n, none)
  | .mkc bytes len => match len.ev env with
    | .int _ k => some (.chan (o.nat k) [], .chan n, some (o.inb k bytes))
    | _ => none
  | _ => none

/-- What is appended: its elements. -/
def appSrc (esz : Nat) (y : VV) (V : List VB) : Option (List (List VV) × Nat) :=
  match unO y with
  | .sl id e s m _ => match Nat.beq e esz with
    | true => match lget V id with
      | some (.arr e' ys _) => match Nat.beq e' esz with
        | true => some (o.sub ys s m, m)
        | false => none
      | some (.ro e' ys) => match Nat.beq e' esz with
        | true => some (o.sub ys s m, m)
        | false => none
      | _ => none
    | false => none
  | _ => none
/-- What changes the heap, or may. -/
def weff (op : I) (env : Env) (V : List VB) (K : VV → List VB → Prop) : Prop :=
  match op with
  | .st n a v => match Nat.beq (llen (v.ev env).cells) n with
    | true => match allOne (v.ev env).cells with
      | true => match a.ev env with
        | .ptr i off => match lget V i with
          | some (.cells cs) => match wrn cs off (v.ev env).cells with
            | some cs' => K vundef (lset V i (.cells cs'))
            | none => False
          | _ => False
        | .elt i e j off => match lget V i with
          | some (.arr e' xs tot) => match Nat.beq e e' with
            | true => match o.get xs j with
              | some cs => match wrn cs off (v.ev env).cells with
                | some cs' => K vundef (lset V i (.arr e' (o.set xs j cs') tot))
                | none => False
              | none => False
            | false => False
          | _ => False
        | _ => False
      | false => False
    | false => False
  | .app esz bytes x y => match appSrc o esz (y.ev env) V with
    | some (ys, m) => o.ll ys = m ∧ o.all1 ys = true ∧ (match x.ev env with
      | .nilSl => (o.nle 1 m = true ∧ o.nle (o.nmul m bytes) 140737488355328 = true) ∧ ((∀ c, o.nle m c = true → K (.sl (llen V) esz 0 m (.n c)) (lapp V [.arr esz ys (.n (o.nmul c esz))])) ∨ ∀ _ : Unit, K (.sl (Nat.succ (llen V)) esz 0 m (.v (llen V))) (lapp V [.num, .arr esz ys (.v (llen V))]))
      | .sl id e 0 n (.n c) => match lget V id with
        | some (.arr e' xs (.n tot)) => match Nat.beq e esz with
          | true => match Nat.beq e' esz with
            | true => (o.ll xs = n ∧ tot = o.nmul c esz ∧ o.nle (o.nmul (o.nadd n m) bytes) 140737488355328 = true) ∧
              ((∀ c', o.nle (o.nadd n m) c' = true → K (.sl (llen V) esz 0 (o.nadd n m) (.n c')) (lapp (lset V id .emp) [.arr esz (o.cat xs ys) (.n (o.nmul c' esz))])) ∨
              ∀ _ : Unit, K (.sl (Nat.succ (llen V)) esz 0 (o.nadd n m) (.v (llen V))) (lapp (lset V id .emp) [.num, .arr esz (o.cat xs ys) (.v (llen V))]))
            | false => False
          | false => False
        | _ => False
      | .sl id e 0 n (.v c) => match lget V id with
        | some (.arr e' xs (.v c')) => match Nat.beq e esz with
          | true => match Nat.beq e' esz with
            | true => match Nat.beq c c' with
              | true => (o.ll xs = n ∧ o.nle (o.nmul (o.nadd n m) bytes) 140737488355328 = true) ∧
                K (.sl (Nat.succ (llen V)) esz 0 (o.nadd n m) (.v (llen V))) (lapp (lset V id .emp) [.num, .arr esz (o.cat xs ys) (.v (llen V))])
              | false => False
            | false => False
          | false => False
        | _ => False
      | _ => False)
    | none => match y.ev env with
      | .nilSl => (match x.ev env with
        | .nilSl => K .nilSl V
        | .sl id e s n (.n c) => o.nle n c = true ∧ K (.sl id e s n (.n c)) V
        | _ => False)
      | _ => False
  | .clen x => match x.ev env with
    | .chan id => match lget V id with
      | some (.chan _ xs) => K (.int .i64 (Int.ofNat (o.len xs))) V
      | _ => False
    | .nilChan => K (.int .i64 0) V
    | _ => False
  | .cpy esz x y => match appSrc o esz (y.ev env) V with
    | some (ys, m) => match x.ev env with
      | .sl id e s n _ => match lget V id with
        | some (.arr e' xs tot) => match Nat.beq e esz with
          | true => match Nat.beq e' esz with
            | true => (o.ll ys = m ∧ o.all1 ys = true ∧ o.nle (o.nadd s n) (o.ll xs) = true) ∧ K (.int .i64 (Int.ofNat (o.nmn m n))) (lset V id (.arr e' (o.ovl xs s ys (o.nmn m n)) tot))
            | false => False
          | false => False
        | _ => False
      | _ => False
    | none => False
  | .mlen x => match x.ev env with
    | .map id => match lget V id with
      | some (.map ks _) => K (.int .i64 (Int.ofNat (o.len ks))) V
      | _ => False
    | .nilMap => K (.int .i64 0) V
    | _ => False
  | .mlk pr z cok x k => match keyOk pr (k.ev env) with
    | true => match x.ev env with
      | .nilMap => match cok with
        | true => K (.tup [z, .bool false]) V
        | false => K z V
      | .map id => match lget V id with
        | some (.map ks vs) => o.kall pr ks = true ∧ (match o.mval ks vs (k.ev env) with
          | some v => match cok with
            | true => K (.tup [v, .bool true]) V
            | false => K v V
          | none => match cok with
            | true => K (.tup [z, .bool false]) V
            | false => K z V)
        | _ => False
      | _ => False
    | false => False
  | .mup pr x k v => match keyOk pr (k.ev env) with
    | true => match VV.one (v.ev env) with
      | true => match x.ev env with
        | .map id => match lget V id with
          | some (.map ks vs) => o.kall pr ks = true ∧ K vundef (lset V id (.map (o.mks ks (k.ev env)) (o.mvs ks vs (k.ev env) (v.ev env))))
          | _ => False
        | _ => False
      | false => False
    | false => False
  | .mdl pr x k => match keyOk pr (k.ev env) with
    | true => match x.ev env with
      | .nilMap => K vundef V
      | .map id => match lget V id with
        | some (.map ks vs) => o.kall pr ks = true ∧ K vundef (lset V id (.map (o.dks ks (k.ev env)) (o.dvs ks vs (k.ev env))))
        | _ => False
      | _ => False
    | false => False
  | .call f args => o.ev f (evs env args) V K
  | .callv x args => match x.ev env with
    | .fn f first cap => o.ev f (lapp first (lapp (evs env args) cap)) V K
    | _ => False
  | .inv x tbl args => match x.ev env with
    | .iface t v => match tbl.find? (fun p => Nat.beq p.1 t) with
      | some (_, f) => o.ev f (v :: evs env args) V K
      | none => False
    | _ => False
  | _ => False

def ifB (b : Bool) (A B : Unit → Prop) : Prop :=
  match b with
  | true => A ()
  | false => B ()
theorem ifB_split {b : Bool} {A B : Unit → Prop} (h1 : b = true → A ()) (h2 : b = false → B ()) : ifB b A B := by
  cases b
  · exact h2 rfl
  · exact h1 rfl
abbrev mtP (b : Bool) (A B : Prop) : Prop :=
  match b with
  | true => A
  | false => B
theorem mt {b : Bool} {A B : Prop} (h1 : b = true → A) (h2 : b = false → B) : mtP b A B := by
  cases b
  · exact h2 rfl
  · exact h1 rfl
theorem ifB_true {b : Bool} {A B : Unit → Prop} (h : ifB b A B) (hb : b = true) : A () := by subst hb; exact h
theorem ifB_false {b : Bool} {A B : Unit → Prop} (h : ifB b A B) (hb : b = false) : B () := by subst hb; exact h

/-- The condition of one operation. -/
def wop (op : I) (env : Env) (V : List VB) (K : VV → List VB → Prop) : Prop :=
  match pval o op env with
  | some (v, none) => K v V
  | some (v, some b) => b = true ∧ K v V
  | none => match lval o op env V with
    | some v => K v V
    | none => match fresh o op env (llen V) with
      | some (vb, v, none) => K v (lapp V [vb])
      | some (vb, v, some b) => b = true ∧ K v (lapp V [vb])
      | none => weff o op env V K

def put (env : Env) (d : Option Nat) (v : VV) : Env :=
  match d with
  | some d => fun t => match Nat.beq t d with
    | true => v
    | false => env t
  | none => env

/-- One operation of a region, its guard looked at. -/
def wost (i : IOp) (rest : Env → List VB → Prop) (env : Env) (V : List VB) : Prop :=
  match i.guard with
    | none => wop o i.op env V fun v V => rest (put env i.dst v) V
    | some (g, want) => match env g with
      | .bool b => ifB b
        (fun _ => match want with
          | true => wop o i.op (put env (some g) (.bool true)) V fun v V => rest (put (put env (some g) (.bool true)) i.dst v) V
          | false => rest (put (put env (some g) (.bool true)) i.dst vundef) V)
        (fun _ => match want with
          | false => wop o i.op (put env (some g) (.bool false)) V fun v V => rest (put (put env (some g) (.bool false)) i.dst v) V
          | true => rest (put (put env (some g) (.bool false)) i.dst vundef) V)
      | .raw _ => False
      | _ => rest (put env i.dst vundef) V

def wops (K : Env → List VB → Prop) : Env → List VB → List IOp → Prop
  | env, V, [] => K env V
  | env, V, i :: l => wost o i (fun env V => wops K env V l) env V

/-- What was loaded, where: the operation's place, the pointer, how many cells, what they held. -/
structure Pin where
  j : Nat
  p : VV
  n : Nat
  agg : Bool
  v : VV
def ldAt (p : VV) (n : Nat) (agg : Bool) (V : List VB) : Option VV :=
  match p with
  | .ptr i off => match lget V i with
    | some (.cells cs) => match rdn cs off n with
      | some l => pack agg l
      | none => none
    | _ => none
  | .elt i e j off => match lget V i with
    | some (.arr e' xs _) => match Nat.beq e e' with
      | true => match o.get xs j with
        | some cs => match rdn cs off n with
          | some l => pack agg l
          | none => none
        | none => none
      | false => none
    | some (.ro e' xs) => match Nat.beq e e' with
      | true => match o.get xs j with
        | some cs => match rdn cs off n with
          | some l => pack agg l
          | none => none
        | none => none
      | false => none
    | _ => none
  | _ => none
def pinsOk : List Pin → List VB → Prop
  | [], _ => True
  | q :: l, V => ldAt o q.p q.n q.agg V = some q.v ∧ pinsOk l V
def hasNat : List Nat → Nat → Bool
  | [], _ => false
  | a :: l, x => match Nat.beq a x with
    | true => true
    | false => hasNat l x
def keepPins (after : List Nat) : List Pin → List Pin
  | [] => []
  | q :: l => match hasNat after q.j with
    | true => keepPins after l
    | false => q :: keepPins after l
def mkPin (j : Nat) (op : I) (env : Env) (v : VV) : Option Pin :=
  match op with
  | .ld n agg a => some ⟨j, a.ev env, n, agg, v⟩
  | _ => none
/-- One step of a region that draws its order, its guard decided. -/
def wdex (s : DS) (pins : List Pin) (rest : List Pin → Env → List VB → Prop) (env : Env) (V : List VB) : Prop :=
  match s.k with
  | .q => match pval o s.io.op env with
    | some (v, none) => rest pins (put env s.io.dst v) V
    | some (v, some b) => b = true ∧ rest pins (put env s.io.dst v) V
    | none => match lval o s.io.op env V with
      | some v => match mkPin s.j s.io.op env v with
        | some pin => rest (pin :: pins) (put env s.io.dst v) V
        | none => False
      | none => False
  | _ => wop o s.io.op env V fun v V' => pinsOk o (keepPins s.io.after pins) V' ∧ rest (keepPins s.io.after pins) (put env s.io.dst v) V'
def wdsk (s : DS) (pins : List Pin) (rest : List Pin → Env → List VB → Prop) (env : Env) (V : List VB) : Prop :=
  rest (match s.k with | .q => pins | _ => keepPins s.io.after pins) (put env s.io.dst vundef) V

/-- One step of it, its guard looked at. -/
def wdst (s : DS) (pins : List Pin) (rest : List Pin → Env → List VB → Prop) (env : Env) (V : List VB) : Prop :=
  match s.io.guard with
    | none => wdex o s pins rest env V
    | some (g, want) => match env g with
      | .bool b => ifB b
        (fun _ => match want with
          | true => wdex o s pins rest (put env (some g) (.bool true)) V
          | false => wdsk s pins rest (put env (some g) (.bool true)) V)
        (fun _ => match want with
          | false => wdex o s pins rest (put env (some g) (.bool false)) V
          | true => wdsk s pins rest (put env (some g) (.bool false)) V)
      | .raw _ => False
      | _ => wdsk s pins rest env V

def anyNat (js : List Nat) : List Nat → Bool
  | [] => false
  | p :: l => match hasNat js p with
    | true => true
    | false => anyNat js l
def jsOf : List DS → List Nat
  | [] => []
  | s :: l => s.j :: jsOf l
/-- What may be drawn early, it will run. -/
def earlyB (env : Env) (n : Nat) (js : List Nat) : List DS → Bool
  | [] => true
  | y :: l => match y.k with
    | .f => match anyNat js y.io.after with
      | true => earlyB env n js l
      | false => match fresh o y.io.op env n with
        | some (_, _, none) => earlyB env n js l
        | some (_, _, some b) => match b with
          | true => earlyB env n js l
          | false => false
        | none => false
    | _ => earlyB env n js l
/-- A region that draws its order, in one order. -/
def wdr (K : Env → List VB → Prop) : List Pin → Env → List VB → List DS → Prop
  | _, env, V, [] => K env V
  | pins, env, V, s :: l => match s.k with
    | .q => wdst o s pins (fun pins env V => wdr K pins env V l) env V
    | _ => match earlyB o env (llen V) (s.j :: jsOf l) l with
      | true => wdst o s pins (fun pins env V => wdr K pins env V l) env V
      | false => False

inductive VX where
  | normal
  | exit (id : Nat)
  | ret

def wpI : IC → (VX → Env → List VB → Prop) → Env → List VB → Prop
  | .skip, K, env, V => K .normal env V
  | .region l, K, env, V => wops o (K .normal) env V l
  | .draw l, K, env, V => wdr o (K .normal) [] env V l
  | .seq a b, K, env, V => wpI a (fun x env V => match x with
    | .normal => wpI b K env V
    | .exit i => K (.exit i) env V
    | .ret => K .ret env V) env V
  | .cond c a b, K, env, V => match c.ev env with
    | .bool t => ifB t (fun _ => wpI a K env V) (fun _ => wpI b K env V)
    | _ => False
  | .block id b, K, env, V => wpI b (fun x env V => match x with
    | .normal => K .normal env V
    | .exit i => match Nat.beq i id with
      | true => K .normal env V
      | false => K (.exit i) env V
    | .ret => K .ret env V) env V
  | .loop b, K, env, V => ∃ (Inv : Nat → Env → List VB → Prop), (∃ m, o.re (Inv m) env V) ∧ ∀ m env V, Inv m env V →
    wpI b (fun x env' V' => match x with
      | .normal => ∃ m', m' < m ∧ o.re (Inv m') env' V'
      | .exit i => K (.exit i) env' V'
      | .ret => K .ret env' V') env V
  | .exit i, K, env, V => K (.exit i) env V
  | .ret, K, env, V => K .ret env V
  | .label, K, env, V => K .normal env V
end
end Go.SL
