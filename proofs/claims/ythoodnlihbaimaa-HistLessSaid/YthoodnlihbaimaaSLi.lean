/- A symbolic executor over the model: the operations that make a block. -/
import Derived.Test.YthoodnlihbaimaaXa
namespace Go.SL
set_option linter.unusedVariables false
set_option linter.unusedSimpArgs false
section
variable {P : Program} {W0 : World} {RE : (Env → List VB → Prop) → Env → List VB → Prop} {o : Ops (Ev P W0) RE} {cand : List TypeId} {N : Nat} {φ : Phi} {env : Env} {a : Act} {V : List VB} {h : Nat → Frag} {w : World}

theorem map_mod (z : List Value) : ∀ (len : Nat), ((Array.range (len * z.length)).map fun i => z.toArray[i % z.toArray.size]!).toList = (List.replicate len z).flatten := by
  intro len
  apply List.ext_getElem?
  intro i
  simp only [Array.toList_map, Array.toList_range, List.getElem?_map, List.size_toArray]
  by_cases hz : z.length = 0
  · have : z = [] := List.eq_nil_of_length_eq_zero hz
    subst this; simp
  by_cases hi : i < len * z.length
  · rw [List.getElem?_range hi]
    have hm : i % z.length < z.length := Nat.mod_lt _ (by omega)
    have hj : i / z.length < len := by rw [Nat.div_lt_iff_lt_mul (by omega)]; exact hi
    have e : i = (i / z.length) * z.length + i % z.length := by rw [Nat.mul_comm]; exact (Nat.div_add_mod i z.length).symm
    have key : ∀ (n : Nat) (j k : Nat), j < n → k < z.length → (List.replicate n z).flatten[j * z.length + k]? = z[k]? := by
      intro n
      induction n with
      | zero => intro j k hj _; omega
      | succ n ih =>
        intro j k hj hk
        rw [List.replicate_succ, List.flatten_cons]
        cases j with
        | zero => rw [Nat.zero_mul, Nat.zero_add, List.getElem?_append_left hk]
        | succ j =>
          rw [List.getElem?_append_right (by rw [Nat.succ_mul]; omega)]
          have : (j + 1) * z.length + k - z.length = j * z.length + k := by rw [Nat.succ_mul]; omega
          rw [this]; exact ih j k (by omega) hk
    conv => rhs; rw [e]
    rw [key len _ _ hj hm]
    simp [hm]
  · rw [List.getElem?_eq_none (by simp; omega), List.getElem?_eq_none (by simp [List.length_flatten]; omega)]
    rfl

theorem denL_replicate {φ : Phi} {z : List VV} {r : List Value} (hz : denL φ z = some r) : ∀ n, denL φ (List.replicate n z).flatten = some (List.replicate n r).flatten
  | 0 => by simp [denL]
  | n + 1 => by
    rw [List.replicate_succ, List.replicate_succ, List.flatten_cons, List.flatten_cons]
    exact denL_append.2 ⟨_, _, hz, denL_replicate hz n, rfl⟩

/-- A literal's elements, laid one by one. -/
theorem lit_ok {n : Nat} : ∀ {parts : List (Nat × Operand)} {ps : List (Nat × Nat × Rd)} {xs out : List (List VV)} {rs : List Value},
    partsB (fun i => some (i, n)) N parts = some ps → (∀ p ∈ parts, RdR φ N env a p.2) → (∀ x ∈ xs, x.length = n) → denL φ xs.flatten = some rs → litCells env xs ps = some out →
    ∃ l, denL φ out.flatten = some l ∧ (∀ x ∈ out, x.length = n) ∧ out.length = xs.length ∧ Instr.fill (fun i => some (i * n, n)) rs.toArray (parts.map fun p => (p.1, a.eval p.2)) = some l.toArray
  | [], ps, xs, out, rs, hp, _, hx, hc, hf => by
    simp [partsB] at hp; subst hp
    simp [litCells] at hf; subst hf
    exact ⟨rs, hc, hx, rfl, by simp [Instr.fill]⟩
  | (i, x) :: parts, ps, xs, out, rs, hp, hr, hx, hc, hf => by
    simp only [partsB] at hp
    split at hp
    · rename_i off n' r s hpl hrd hps
      cases hpl
      cases hp
      simp only [litCells] at hf
      split at hf
      · rename_i hbeq
        split at hf
        · rename_i cs hget
          rw [lget_eq] at hget
          rw [lset_eq] at hf
          have hxv := (hr (i, x) (by simp)).get hrd
          have hcx := cells_den hxv
          have hlen := denL_length hcx
          rw [llen_eq] at hbeq
          have hn : (r.ev env).cells.length = n := Nat.eq_of_beq_eq_true hbeq
          have hfs := flatten_set hx hget hn
          have hi : i < xs.length := (List.getElem?_eq_some_iff.1 hget).1
          have hfl : xs.flatten.length = xs.length * n := by
            clear hget hfs hf hc hi
            induction xs with
            | nil => simp
            | cons x xs ih => rw [List.flatten_cons, List.length_append, ih (fun y hy => hx y (by simp [hy])), hx x (by simp), List.length_cons, Nat.succ_mul]; omega
          have hfit : i * n + n ≤ xs.flatten.length := by
            rw [hfl]
            calc i * n + n = (i + 1) * n := by rw [Nat.succ_mul]
              _ ≤ xs.length * n := Nat.mul_le_mul_right n hi
          have hcl := denL_length hc
          have hc' : denL φ (xs.set i (r.ev env).cells).flatten = some (rs.take (i * n) ++ (a.eval x).cells.toList ++ rs.drop (i * n + n)) := by
            rw [hfs]
            exact denL_append.2 ⟨_, _, denL_append.2 ⟨_, _, denL_take _ hc, hcx, rfl⟩, denL_drop _ hc, rfl⟩
          obtain ⟨l, h1, h2, h3, h4⟩ := lit_ok hps (fun p hp => hr p (by simp [hp])) (xs := xs.set i (r.ev env).cells) (by
            intro y hy
            rcases List.mem_or_eq_of_mem_set hy with hy | hy
            · exact hx y hy
            · rw [hy]; exact hn) hc' hf
          refine ⟨l, h1, h2, by rw [h3]; simp, ?_⟩
          simp only [List.map_cons, Instr.fill]
          have hsz : (a.eval x).cells.size = n := by rw [← hn, ← hlen]; simp
          rw [if_neg (by simp [hsz]; omega)]
          rw [← h4]
          congr 1
          have key : ∀ (ys : List Value) (k : Nat) (base : List Value), i * n + k + ys.length ≤ base.length →
              (ys.zipIdx k).foldl (fun cs (p : Value × Nat) => cs.setIfInBounds (i * n + p.2) p.1) base.toArray = (base.take (i * n + k) ++ ys ++ base.drop (i * n + k + ys.length)).toArray := by
            intro ys
            induction ys with
            | nil => intro k base _; simp
            | cons y ys ih =>
              intro k base hb
              simp only [List.zipIdx_cons, List.foldl_cons]
              have hset : base.toArray.setIfInBounds (i * n + k) y = (base.set (i * n + k) y).toArray := by simp
              rw [hset, ih (k + 1) _ (by simp at hb ⊢; omega)]
              congr 1
              have := list_seg_step base (i * n + k) y ys (by simpa [Nat.add_assoc] using hb)
              simpa [Nat.add_assoc, Nat.add_comm, Nat.add_left_comm] using this
          have := key (a.eval x).cells.toList 0 rs (by simp [hsz]; omega)
          simp only [Nat.add_zero] at this
          have hsz2 : (a.eval x).cells.toList.length = n := by simp [hsz]
          rw [hsz2] at this
          rw [← this]
          conv => lhs; rw [← Array.foldl_toList]
          simp
        · cases hf
      · cases hf
    · cases hp

def isFresh : I → Bool
  | .new _ => true | .box _ => true | .lit .. => true | .mk .. => true | .mkc .. => true | .mkm => true | _ => false
theorem wrap_nat {q : Nat} (h : q ≤ 281474976710656) : IntKind.i64.wrap (q : Int) = q := by
  have h2 : (2 : Int) ^ 64 = 18446744073709551616 := by decide
  have h3 : (2 : Int) ^ 63 = 9223372036854775808 := by decide
  simp only [IntKind.wrap, IntKind.bits, IntKind.signed, Nat.reduceSub, h2, h3]
  rw [Int.emod_eq_of_lt (by omega) (by omega)]
  rw [if_neg (by simp; omega)]

theorem fresh_ok {op : Oper} {i : I} {n : Nat} (hc : compOp P cand N op = some i) (hr : ∀ x ∈ op.op.operands, RdR φ N env a x) {vb : VB} {v : VV} {c : Option Bool}
    (hv : fresh o i env n = some (vb, v, c)) (hb : c = none ∨ c = some true) (hn : φ n = none) (w : World) :
    ∃ ob x, (execOp a.eval op).run P w = .ok (.value x) (wpush w ob) ∧ den (φ.set n (w.heap.size, 0)) v = some x ∧ vb.ok W0 (φ.set n (w.heap.size, 0)) (single w.heap.size ob) n := by
  have none_of : isFresh i = false → False := by
    intro hne
    cases i <;> simp [fresh, isFresh] at hv hne
  have hle := Phi.le_set (p := (w.heap.size, 0)) hn
  have hφ : (φ.set n (w.heap.size, 0)) n = some (w.heap.size, 0) := Phi.set_self ..
  have hs : ∀ ob, single w.heap.size ob w.heap.size = some ob := fun ob => if_pos rfl
  obtain ⟨dst, op, ty, pos, after, gd⟩ := op
  cases op <;> simp only [compOp] at hc <;> simp only [Op.operands] at hr
  case alloc t =>
    simp only [Option.map_eq_some_iff] at hc
    obtain ⟨z, hz, rfl⟩ := hc
    simp only [fresh] at hv
    cases hv
    obtain ⟨zv, hzr, hzv⟩ := run_zeroValue' hz w (φ.set n (w.heap.size, 0))
    refine ⟨.cells zv.cells t (0, 0), .pointer (some ⟨w.heap.size, 0, none⟩), ?_, den_ptr.2 ⟨_, 0, hφ, rfl⟩, ⟨_, _, t, hφ, hzv, by rw [hs]; try simp⟩⟩
    simp only [execOp, Instr.alloc, Sem.run_bind, hzr, Result.andThen_ok, newVar, newRow, run_newObj, Sem.run_pure]
    try rfl
  case box t x =>
    simp only [Option.map_eq_some_iff] at hc
    obtain ⟨r, hx, rfl⟩ := hc
    simp only [fresh] at hv
    cases hv
    have d1 := den_mono hle _ _ ((hr x (by simp)).get hx)
    refine ⟨.cells (a.eval x).cells t (0, 0), .pointer (some ⟨w.heap.size, 0, none⟩), ?_, den_ptr.2 ⟨_, 0, hφ, rfl⟩, ⟨_, _, t, hφ, cells_den d1, by rw [hs]; try simp⟩⟩
    simp only [execOp, Instr.box, Sem.run_bind, Result.andThen_ok, newVar, newRow, run_newObj, Sem.run_pure]
    try rfl
  case buildSlice t len parts =>
    split at hc
    · rename_i e hu
      split at hc
      · rename_i sz z hsz hz
        split at hc
        · rename_i hcond
          obtain ⟨hz1, hz2, hz3⟩ := hcond
          simp only [Option.map_eq_some_iff] at hc
          obtain ⟨ps, hp, rfl⟩ := hc
          simp only [fresh] at hv
          split at hv
          · rename_i xs hxs
            cases hv
            rw [lrep_eq] at hxs
            obtain ⟨zv, hzr, hzv⟩ := run_zeroValue' hz w φ
            have hzl := denL_length hzv
            obtain ⟨l, h1, h2, h3, h4⟩ := lit_ok hp (fun p hp => hr _ (mem_parts hp)) (fun x hx => by rw [(List.mem_replicate.1 hx).2]; exact hz1.symm) (denL_replicate hzv len) hxs
            have hlen : l.length = len * sz := by
              have := denL_length h1
              rw [this]
              have hfl : ∀ (ys : List (List VV)), (∀ x ∈ ys, x.length = sz) → ys.flatten.length = ys.length * sz := by
                intro ys
                induction ys with
                | nil => simp
                | cons x ys ih => intro hy; rw [List.flatten_cons, List.length_append, ih (fun y hy' => hy y (by simp [hy'])), hy x (by simp), List.length_cons, Nat.succ_mul]; omega
              rw [hfl _ h2, h3]; simp
            refine ⟨.cells l.toArray e (0, 0), .slice (some ⟨w.heap.size, 0, none⟩) len len, ?_, den_sl.2 ⟨_, 0, hφ, by simp⟩, ⟨_, l, [], e, hφ, denL_mono hle _ _ h1, by rw [hs]; try simp, by simp only [Cap.tot]; congr 1; simpa using hlen.symm, h2⟩⟩
            simp only [execOp, Instr.buildSlice, Sem.run_bind, run_underlying hu, Result.andThen_ok, run_sizeOf' hsz, Sem.run_ite, if_neg (show ¬ len * sz > 2 ^ 24 by omega)]
            have hcells : ∀ (Z : Array Value), (len * sz ≠ 0 → Z.toList = zv.cells.toList) → ((Array.range (len * sz)).map (Z[· % Z.size]!)) = (List.replicate len zv.cells.toList).flatten.toArray := by
              intro Z hZ
              by_cases h0 : len * sz = 0
              · have : len = 0 := by rcases Nat.mul_eq_zero.1 h0 with h | h; exact h; exact absurd h hz2
                subst this; first | done | simp
              · have hZ' : Z = zv.cells := Array.toList_inj.1 (hZ h0)
                subst hZ'
                have := map_mod zv.cells.toList len
                rw [hzl, ← hz1] at this
                apply Array.toList_inj.1
                rw [← this]
                try simp
            by_cases h0 : len * sz = 0
            · rw [if_pos h0]
              simp only [Sem.run_pure, Result.andThen_ok]
              rw [hcells #[] (fun h => absurd h0 h)]
              rw [Array.toList_map, h4]
              simp only [newRow, Sem.run_bind, run_newObj, Result.andThen_ok, Sem.run_pure]
              try rfl
            · rw [if_neg h0]
              simp only [hzr, Result.andThen_ok, Sem.run_pure]
              rw [hcells zv.cells (fun _ => rfl)]
              rw [Array.toList_map, h4]
              simp only [newRow, Sem.run_bind, run_newObj, Result.andThen_ok, Sem.run_pure]
              try rfl
          · cases hv
        · cases hc
      · cases hc
    · cases hc
  case makeSlice t lx cx =>
    split at hc
    · rename_i e r hu hx
      split at hc
      · rename_i inf z hinf hz
        split at hc
        · rename_i hcond
          obtain ⟨hs1, hz1, hz2⟩ := hcond
          cases hc
          simp only [fresh] at hv
          split at hv
          · rename_i k m hm
            cases hv
            have d1 := (hr lx (by simp)).get hx
            rw [hm] at d1
            have e1 := den_int.1 d1
            have e2 : a.eval cx = .int k m ∨ ∃ k', a.eval cx = .int k' m := by
              unfold sameTmp at hs1
              split at hs1
              · simp at hs1; subst hs1; exact .inl e1
              · rename_i k1 n1 k2 n2
                simp at hs1; subst hs1
                right
                refine ⟨k2, ?_⟩
                simp only [Act.eval] at e1 ⊢
                injection e1 with _ e1
                rw [e1]
              · cases hs1
            have e3 : ∃ k', a.eval cx = .int k' m := by rcases e2 with h | h; exact ⟨k, h⟩; exact h
            obtain ⟨k', e3⟩ := e3
            have hin := hb.resolve_left (by simp)
            simp only [o.inb_eq, Option.some.injEq, decide_eq_true_eq] at hin
            obtain ⟨hm0, hm1⟩ := hin
            have hdiv : 281474976710656 / (inf.bytes + 1) * (inf.bytes + 1) ≤ 281474976710656 := Nat.div_mul_le_self ..
            have hdl : 281474976710656 / (inf.bytes + 1) ≤ 281474976710656 := Nat.div_le_self ..
            generalize hD : 281474976710656 / (inf.bytes + 1) = D at hdiv hdl hm1
            obtain ⟨q, rfl⟩ : ∃ q : Nat, m = q := ⟨m.toNat, by omega⟩
            have hq : q < D := by omega
            have hbytes : inf.bytes * q ≤ 281474976710656 := by
              calc inf.bytes * q ≤ (inf.bytes + 1) * D := Nat.mul_le_mul (by omega) (by omega)
                _ = D * (inf.bytes + 1) := Nat.mul_comm ..
                _ ≤ _ := hdiv
            have hwrap : IntKind.i64.wrap (q : Int) = q := wrap_nat (by omega)
            obtain ⟨zv, hzr, hzv⟩ := run_zeroValue' hz w φ
            have hzl := denL_length hzv
            have hszb : sizeB P e = some inf.size := by simp [sizeB, hinf]
            refine ⟨.cells (List.replicate q zv.cells.toList).flatten.toArray e (0, 0), .slice (some ⟨w.heap.size, 0, none⟩) q q, ?_, den_sl.2 ⟨_, 0, hφ, by simp [o.nat_eq]⟩,
              ⟨_, (List.replicate q zv.cells.toList).flatten, [], e, hφ, ?_, by rw [hs]; try simp, ?_, ?_⟩⟩
            · have hbig : ((inf.bytes : Int) * (q : Int)) ≤ 281474976710656 := by rw [← Int.natCast_mul]; omega
              simp only [execOp, Instr.makeSlice, Sem.run_bind, run_underlying hu, Result.andThen_ok, e1, e3, asInt, asIntOf, Sem.run_pure, run_typeInfo' hinf, hwrap]
              rw [if_neg (by simp; omega)]
              simp only [Sem.run_bind, run_askRoom, Result.andThen_ok, run_sizeOf' hszb, Int.toNat_natCast]
              have hcells : ∀ (Z : Array Value), (q * inf.size ≠ 0 → Z.toList = zv.cells.toList) → ((Array.range (q * inf.size)).map (Z[· % Z.size]!)) = (List.replicate q zv.cells.toList).flatten.toArray := by
                intro Z hZ
                by_cases h0 : q * inf.size = 0
                · have : q = 0 := by rcases Nat.mul_eq_zero.1 h0 with h | h; exact h; exact absurd h hz2
                  subst this; first | done | simp
                · have hZ' : Z = zv.cells := Array.toList_inj.1 (hZ h0)
                  subst hZ'
                  have := map_mod zv.cells.toList q
                  rw [hzl, ← hz1] at this
                  apply Array.toList_inj.1
                  rw [← this]
                  try simp
              by_cases h0 : q * inf.size = 0
              · rw [if_pos h0]
                simp only [Sem.run_bind, Sem.run_pure, Result.andThen_ok]
                rw [hcells #[] (fun h => absurd h0 h)]
                simp only [newRow, Sem.run_bind, run_newObj, Result.andThen_ok, Sem.run_pure]
                try rfl
              · rw [if_neg h0]
                simp only [Sem.run_bind, hzr, Result.andThen_ok, Sem.run_pure]
                rw [hcells zv.cells (fun _ => rfl)]
                simp only [newRow, Sem.run_bind, run_newObj, Result.andThen_ok, Sem.run_pure]
                try rfl
            · rw [o.rep_eq, o.nat_eq, Int.toNat_natCast]; exact denL_mono hle _ _ (denL_replicate hzv q)
            · simp only [Cap.tot]; congr 1; rw [o.nmul_eq, o.nat_eq, Int.toNat_natCast]; simp [hzl, hz1]
            · intro x hx
              rw [o.rep_eq] at hx
              rw [(List.mem_replicate.1 hx).2]; exact hz1.symm
          · cases hv
        · cases hc
      · cases hc
    · cases hc
  case makeMap t r =>
    split at hc
    · cases hc
      simp only [fresh] at hv
      cases hv
      refine ⟨.map #[] 0, .map (some w.heap.size), ?_, by simp [den, hφ], ⟨_, [], [], #[], 0, hφ, rfl, rfl, by rw [hs], rfl, rfl⟩⟩
      simp only [execOp, Option.map_none, Instr.makeMap, Sem.run_bind, Sem.run_pure, run_newObj, Result.andThen_ok]
      try rfl
    · cases hc
  case makeChan t lx =>
    split at hc
    · rename_i dir e l' hu hx
      split at hc
      · rename_i inf hinf
        cases hc
        simp only [fresh] at hv
        split at hv
        · rename_i k m hm
          cases hv
          have d1 := (hr lx (by simp)).get hx
          rw [hm] at d1
          have e1 := den_int.1 d1
          have hin := hb.resolve_left (by simp)
          simp only [o.inb_eq, Option.some.injEq, decide_eq_true_eq] at hin
          obtain ⟨hm0, hm1⟩ := hin
          have hdiv : 281474976710000 / (inf.bytes + 1) * (inf.bytes + 1) ≤ 281474976710000 := Nat.div_mul_le_self ..
          have hdl : 281474976710000 / (inf.bytes + 1) ≤ 281474976710000 := Nat.div_le_self ..
          generalize hD : 281474976710000 / (inf.bytes + 1) = D at hdiv hdl hm1
          obtain ⟨q, rfl⟩ : ∃ q : Nat, m = q := ⟨m.toNat, by omega⟩
          have hq : q < D := by omega
          have hbytes : inf.bytes * q ≤ 281474976710000 := by
            calc inf.bytes * q ≤ (inf.bytes + 1) * D := Nat.mul_le_mul (by omega) (by omega)
              _ = D * (inf.bytes + 1) := Nat.mul_comm ..
              _ ≤ _ := hdiv
          have hbig : ((inf.bytes : Int) * (q : Int)) ≤ 281474976710000 := by rw [← Int.natCast_mul]; omega
          have hwrap : IntKind.i64.wrap (q : Int) = q := wrap_nat (by omega)
          refine ⟨.chan q #[] false 0 0 false, .chan (some w.heap.size), ?_, by simp [den, hφ], ⟨_, [], 0, 0, hφ, rfl, by rw [hs, o.nat_eq, Int.toNat_natCast]; try simp⟩⟩
          simp only [execOp, Instr.makeChan, Sem.run_bind, run_underlying hu, Result.andThen_ok, e1, asInt, asIntOf, Sem.run_pure, run_typeInfo' hinf, hwrap]
          rw [if_neg (by simp [IntKind.max, IntKind.bits, IntKind.signed]; omega)]
          simp only [Sem.run_bind, Sem.run_pure, run_newObj, Result.andThen_ok, Int.toNat_natCast]
          try rfl
        · cases hv
      · cases hc
    · cases hc
  all_goals
    exfalso
    apply none_of
    first
      | (simp only [Option.map_eq_some_iff] at hc; obtain ⟨_, _, rfl⟩ := hc; rfl)
      | (repeat' split at hc
         all_goals first | (cases hc; done) | (cases hc; rfl) | (simp only [Option.map_eq_some_iff] at hc; obtain ⟨_, _, rfl⟩ := hc; rfl) | (simp only [eqI] at hc; split at hc <;> cases hc <;> rfl) | (obtain ⟨_, _, rfl⟩ := eqsI_is hc; rfl) | (obtain ⟨_, _, _, _, _, h2⟩ := mapI_is hc; first | (obtain ⟨_, _, rfl⟩ := mlkI_is h2; rfl) | (simp only [mupI] at h2; cases h2; rfl) | (simp only [mdlI] at h2; cases h2; rfl)))
end
end Go.SL
