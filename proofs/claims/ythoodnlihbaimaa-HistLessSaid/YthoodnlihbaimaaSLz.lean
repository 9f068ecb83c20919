/- Short words for the small code. -/
import Derived.Test.YthoodnlihbaimaaSLp
namespace Go.SL.Z
abbrev D (d : Nat) (o : I) (g : Option (Nat × Bool)) (l : List Nat) : IOp := ⟨some d, o, g, l⟩
abbrev U (o : I) (g : Option (Nat × Bool)) (l : List Nat) : IOp := ⟨none, o, g, l⟩
abbrev mv (d n : Nat) (l : List Nat) : IOp := ⟨some d, .mov (.t n), none, l⟩
abbrev fa (d k n : Nat) (l : List Nat) : IOp := ⟨some d, .fad k (.t n), none, l⟩
abbrev ld (d n : Nat) (l : List Nat) : IOp := ⟨some d, .ld 1 false (.t n), none, l⟩
abbrev ck (d n : Nat) (l : List Nat) : IOp := ⟨some d, .chk (.t n), none, l⟩
abbrev q (j : Nat) (o : IOp) : DS := ⟨.q, j, o⟩
abbrev e (j : Nat) (o : IOp) : DS := ⟨.e, j, o⟩
abbrev f (j : Nat) (o : IOp) : DS := ⟨.f, j, o⟩
abbrev n (k : Int) : Rd := .c (.int .i64 k)
/-- The rule for a call of a function. -/
abbrev EvS (P : Program) (f : FuncId) (N : Nat) (rv : List RV) (ic : IC) : Prop :=
  ∀ {W0 : World} {args : List VV} {V : List VB} {Q : VV → List VB → Prop} (_ : Nat.ble args.length N = true) (_ : ∀ o : Ops (Ev P W0) (Re W0 N V.length), wpI o ic (retK o rv Q) (envOf args) V), Ev P W0 f args V Q
end Go.SL.Z
