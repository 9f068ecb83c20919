/- A symbolic executor over the model: what looks at its operands alone yields what the executor says. -/
import Derived.Test.YtglghdjpkecngaaGreatSLe
namespace Go.SL
section
variable {EV : FuncId → List VV → List VB → (VV → List VB → Prop) → Prop} {RE : (Env → List VB → Prop) → Env → List VB → Prop} {o : Ops EV RE} {P : Program} {cand : List TypeId} {N : Nat} {φ : Phi} {env : Env} {a : Act}

theorem mem_parts {parts : Array (Nat × Operand)} {p : Nat × Operand} (h : p ∈ parts.toList) : p.2 ∈ ((parts.toList.map (·.2)).toArray) := by
  simp only [List.mem_toArray, List.mem_map]
  exact ⟨p, h, rfl⟩

theorem run_places (w : World) : ∀ (l : List Field), (∀ f ∈ l, (sizeB P f.type).isSome = true) →
    (l.mapM fun f => (do pure (f.offset, ← sizeOf f.type) : Sem (Nat × Nat))).run P w = .ok (l.map fun f => (f.offset, (sizeB P f.type).getD 0)) w
  | [], _ => by simp
  | f :: l, h => by
    have hf := h f (by simp)
    obtain ⟨n, hn⟩ := Option.isSome_iff_exists.1 hf
    rw [List.mapM_cons]
    simp only [Sem.run_bind, run_sizeOf' hn, Result.andThen_ok, Sem.run_pure, run_places w l (fun g hg => h g (by simp [hg])), List.map_cons, hn, Option.getD_some]

theorem place_eq {fs : Array Field} (h : fs.toList.all (fun f => (sizeB P f.type).isSome) = true) : ((fs.toList.map fun f => (f.offset, (sizeB P f.type).getD 0)).toArray[·]?) = structPlace P fs := by
  funext i
  unfold structPlace
  simp only [List.getElem?_toArray, List.getElem?_map, Array.getElem?_toList]
  cases hi : fs[i]? with
  | none => rfl
  | some f =>
    have hm : f ∈ fs.toList := by
      rw [← Array.getElem?_toList] at hi
      exact List.mem_of_getElem? hi
    have := (List.all_eq_true.1 h) f hm
    obtain ⟨n, hn⟩ := Option.isSome_iff_exists.1 this
    simp [hn]

theorem cells_toList_inj {u v : Value} (h : u.cells.toList = v.cells.toList) : u.cells = v.cells := Array.toList_inj.1 h

theorem asInt_run {v : Value} {k : IntKind} {n : Int} (h : v = .int k n) (w : World) : (asIntOf v).run P w = .ok (k, n) w := by subst h; rfl

theorem run_sliceBound {v : Value} {k : IntKind} {i : Int} {y : Nat} {code : BoundsCode} (hv : v = .int k i) (h0 : 0 ≤ i) (h1 : i ≤ (y : Int)) (w : World) : (Instr.sliceBound v y code).run P w = .ok i.toNat w := by
  subst hv
  simp [Instr.sliceBound, asIntOf, h0, h1]

theorem run_slice' {t e : TypeId} {sz : Nat} {low high : Option Value} {l h len cap : Nat} {ad : Option Addr} (hu : P.underlying t = some (.slice e)) (hn : sizeB P e = some sz) (w : World)
    (hb : (Instr.sliceBounds true len cap low high none).run P w = .ok (l, h, cap) w) :
    (Instr.slice t (.slice ad len cap) low high none).run P w = .ok (.slice (if cap = l then ad else ad.map (·.add (l * sz))) (h - l) (cap - l)) w := by
  unfold Instr.slice
  simp only [Sem.run_bind, run_underlying hu, Result.andThen_ok, hb, run_sizeOf' hn, Sem.run_pure]

theorem den_sliced {i e st s l cap n c b : Nat} (hφ : φ i = some (b, st)) : den φ (.sl i e (if cap = l then s else s + l) n (.n c)) = some (.slice (if cap = l then some ⟨b, st + s * e, none⟩ else (some ⟨b, st + s * e, none⟩ : Option Addr).map (·.add (l * e))) n c) := by
  refine den_sl.2 ⟨b, st, hφ, ?_⟩
  split
  · rfl
  · simp [Addr.add_lit, Nat.add_mul, Nat.add_assoc]

theorem cap_v {φ : Phi} {s n i k : Nat} (h : (Cap.v i).cap φ s n = some k) : ∃ p, φ i = some p ∧ s + n ≤ p.1 ∧ k = p.1 - s := by
  simp only [Cap.cap] at h
  split at h
  · rename_i p hp
    split at h
    · rename_i hl; cases h; exact ⟨p, hp, hl, rfl⟩
    · cases h
  · cases h
theorem den_slicedv {i e st s l k h n b cid : Nat} (hφ : φ i = some (b, st)) (hc : (Cap.v cid).cap φ s n = some k) (h1 : l ≤ h) (h2 : h ≤ n) (h3 : l = 0 ∨ l < n) :
    den φ (.sl i e (s + l) (h - l) (.v cid)) = some (.slice (if k = l then some ⟨b, st + s * e, none⟩ else (some ⟨b, st + s * e, none⟩ : Option Addr).map (·.add (l * e))) (h - l) (k - l)) := by
  obtain ⟨p, hp, hle, rfl⟩ := cap_v hc
  refine den_slc.2 ⟨b, st, p.1 - s - l, hφ, ?_, ?_⟩
  · simp only [Cap.cap, hp]
    rw [if_pos (by omega)]
    congr 1; omega
  · split
    · have : l = 0 := by omega
      subst this
      rfl
    · simp [Addr.add_lit, Nat.add_mul, Nat.add_assoc]

theorem rdo_ok {x : Option Operand} {r : Option Rd} (h : rdo N x = some r) (hr : ∀ y ∈ x, RdR φ N env a y) : (x = none ∧ r = none) ∨ ∃ y z, x = some y ∧ r = some z ∧ den φ (z.ev env) = some (a.eval y) := by
  cases x with
  | none => simp [rdo] at h; exact .inl ⟨rfl, h.symm⟩
  | some y =>
    simp only [rdo, Option.map_eq_some_iff] at h
    obtain ⟨z, hz, rfl⟩ := h
    exact .inr ⟨y, z, rfl, rfl, (hr y rfl).get hz⟩

theorem pval_ok {op : Oper} {i : I} (hc : compOp P cand N op = some i) (hr : ∀ x ∈ op.op.operands, RdR φ N env a x) {v : VV} {c : Option Bool} (hv : pval o i env = some (v, c)) (hb : c = none ∨ c = some true) :
    Yld P a op φ v := by
  obtain ⟨dst, op, ty, pos, after, gd⟩ := op
  cases op <;> simp only [compOp] at hc <;> simp only [Op.operands] at hr
  case move x | assign x =>
    simp only [Option.map_eq_some_iff] at hc
    obtain ⟨r, hx, rfl⟩ := hc
    simp only [pval] at hv
    cases hv
    exact ⟨_, (hr x (by simp)).get hx, fun w => by simp [execOp]⟩
  case pick c a' b =>
    split at hc
    · rename_i rc ra rb h1 h2 h3
      cases hc
      simp only [pval] at hv
      have d1 := (hr c (by simp)).get h1
      have d2 := (hr a' (by simp)).get h2
      have d3 := (hr b (by simp)).get h3
      split at hv
      · rename_i t ht
        rw [ht, den_bool.2 rfl] at d1
        injection d1 with d1
        cases t <;> simp only at hv <;> cases hv
        · exact ⟨_, d3, fun w => by simp [execOp, ← d1, asBool]⟩
        · exact ⟨_, d2, fun w => by simp [execOp, ← d1, asBool]⟩
      · cases hv
    · cases hc
  case build t parts =>
    split at hc
    · rename_i fs z hu hz
      split at hc
      · rename_i hall
        simp only [Option.map_eq_some_iff] at hc
        obtain ⟨ps, hp, rfl⟩ := hc
        simp only [pval] at hv
        split at hv
        · rename_i cs hcs
          cases hv
          obtain ⟨zv0, _, hzv⟩ := run_zeroValue' hz default φ
          obtain ⟨l, hl, hf⟩ := fillV_ok hp (fun p hp => hr _ (mem_parts hp)) hzv hcs
          refine ⟨_, den_agg.2 ⟨l, hl, rfl⟩, fun w => ?_⟩
          obtain ⟨zv, hzr, hzv2⟩ := run_zeroValue' hz w φ
          have hsame : zv.cells = zv0.cells := by
            rw [hzv] at hzv2
            injection hzv2 with h
            exact cells_toList_inj h.symm
          simp only [execOp, Instr.build, Sem.run_bind, hzr, Result.andThen_ok, run_underlying hu, Array.mapM_eq_mapM_toList, Sem.run_map]
          rw [run_places w fs.toList (List.all_eq_true.1 hall)]
          simp only [Result.andThen_ok, place_eq hall, hsame]
          simp only [Array.toArray_toList] at hf
          rw [Array.toList_map, hf]
          rfl
        · cases hv
      · cases hc
    · rename_i n e z hu hz
      split at hc
      · rename_i sz hsz
        simp only [Option.map_eq_some_iff] at hc
        obtain ⟨ps, hp, rfl⟩ := hc
        simp only [pval] at hv
        split at hv
        · rename_i cs hcs
          cases hv
          obtain ⟨zv0, _, hzv⟩ := run_zeroValue' hz default φ
          obtain ⟨l, hl, hf⟩ := fillV_ok hp (fun p hp => hr _ (mem_parts hp)) hzv hcs
          refine ⟨_, den_agg.2 ⟨l, hl, rfl⟩, fun w => ?_⟩
          obtain ⟨zv, hzr, hzv2⟩ := run_zeroValue' hz w φ
          have hsame : zv.cells = zv0.cells := by
            rw [hzv] at hzv2
            injection hzv2 with h
            exact cells_toList_inj h.symm
          simp only [execOp, Instr.build, Sem.run_bind, hzr, Result.andThen_ok, run_underlying hu, run_sizeOf' hsz, hsame]
          simp only [Array.toArray_toList] at hf
          rw [Array.toList_map, hf]
          rfl
        · cases hv
      · cases hc
    · cases hc
  case nilCheck x =>
    simp only [Option.map_eq_some_iff] at hc
    obtain ⟨r, hx, rfl⟩ := hc
    simp only [pval] at hv
    have d1 := (hr x (by simp)).get hx
    split at hv <;> cases hv <;> rename_i hev <;> rw [hev] at d1
    · obtain ⟨b, s, h1, h2⟩ := den_ptr.1 d1
      exact ⟨_, d1, fun w => by simp [execOp, h2]⟩
    · obtain ⟨b, s, h1, h2⟩ := den_elt.1 d1
      exact ⟨_, d1, fun w => by simp [execOp, h2]⟩
    · obtain ⟨l, m, h1, h2, h3⟩ := den_fn.1 d1
      exact ⟨_, d1, fun w => by simp [execOp, h3]⟩
  case binOp op t x y ty2 =>
    split at hc
    · rename_i rx ry h1 h2
      have d1 := (hr x (by simp)).get h1
      have d2 := (hr y (by simp)).get h2
      have eqp : ∀ (pk : PK) (d : TypeDesc), P.underlying t = some d → pk.fits d = true → (match pk with | .iface => isConst x || isConst y | _ => true) = true → eqI pk op rx ry = some i → Yld P a ⟨dst, .binOp op t x y ty2, ty, pos, after, gd⟩ φ v := by
        intro pk d hu hf hcst hi
        have main : ∀ neg : Bool, op = (if neg then .neq else .eql) → i = .eqp pk neg rx ry → Yld P a ⟨dst, .binOp op t x y ty2, ty, pos, after, gd⟩ φ v := by
          intro neg hop hi
          subst hi
          cases pk with
          | bool =>
            simp only [pval] at hv
            split at hv
            · rename_i p q hp hq
              rw [hp] at d1
              rw [hq] at d2
              have e1 := den_bool.1 d1
              have e2 := den_bool.1 d2
              cases d <;> simp [PK.fits] at hf
              have he : ∀ w, (Op.equal t (.bool p) (.bool q)).run P w = .ok (p == q) w := fun w => by
                rw [show Op.equal t (.bool p) (.bool q) = Op.equalIn (9999 + 1) t (.bool p) (.bool q) from rfl, Op.equalIn]
                simp [run_underlying hu]
              cases neg <;> simp only at hv <;> cases hv
              · refine ⟨_, den_bool.2 rfl, fun w => ?_⟩
                subst hop
                simp [execOp, e1, e2, eqGuard, binOp, he, o.beq_eq]
              · refine ⟨_, den_bool.2 rfl, fun w => ?_⟩
                subst hop
                simp [execOp, e1, e2, eqGuard, binOp, he, o.beq_eq, o.not_eq]
            · cases hv
          | ptr | sl | map | fn | iface =>
            simp only [pval] at hv
            split at hv
            · rename_i b hn
              refine ⟨.bool (if neg then !b else b), ?_, fun w => ?_⟩
              · cases neg <;> simp only at hv <;> cases hv
                · exact den_bool.2 rfl
                · rw [o.not_eq]; exact den_bool.2 rfl
              · subst hop
                simp only [execOp, Sem.run_bind, guard_eqp hn d1 d2 hcst w, Result.andThen_ok, bin_eqp hn d1 d2 hu hf w, Sem.run_pure]
            · cases hv
        unfold eqI at hi
        split at hi <;> cases hi
        · exact main false rfl rfl
        · exact main true rfl rfl
      have bins : i = .bin op rx ry → Yld P a ⟨dst, .binOp op t x y ty2, ty, pos, after, gd⟩ φ v := by
        intro hi
        subst hi
        simp only [pval] at hv
        split at hv
        · rename_i k m k' n hm hn
          rw [hm] at d1
          rw [hn] at d2
          have e1 := den_int.1 d1
          have e2 := den_int.1 d2
          have fin : ∀ (hcond : match sortOf op with | .ar => k = k' | .arN => needs op m n = true ∧ (op ≠ .shl → op ≠ .shr → k = k') | .cmp => k = k')
              (hval : v = match sortOf op with | .cmp => .bool (icmp op m n) | _ => .int k (arith op k m n)), Yld P a ⟨dst, .binOp op t x y ty2, ty, pos, after, gd⟩ φ v := by
            intro hcond hval
            refine ⟨match sortOf op with | .cmp => .bool (icmp op m n) | _ => .int k (arith op k m n), ?_, fun w => ?_⟩
            · subst hval; split <;> simp [den]
            · simp only [execOp, e1, e2, Sem.run_bind, eqGuard_int, Result.andThen_ok, bin_run hcond w, Sem.run_pure]
              rfl
          split at hv
          · rename_i hs
            split at hv
            · rename_i hk
              cases hv
              exact fin (by rw [hs]; simpa using hk) (by rw [hs, o.ar_eq])
            · cases hv
          · rename_i hs
            split at hv
            · cases hv
              have hne := hb.resolve_left (by simp)
              simp only [o.need_eq, Option.some.injEq] at hne
              exact fin (by rw [hs]; exact ⟨hne, fun h => absurd rfl h⟩) (by rw [hs, o.ar_eq])
            · cases hv
              have hne := hb.resolve_left (by simp)
              simp only [o.need_eq, Option.some.injEq] at hne
              exact fin (by rw [hs]; exact ⟨hne, fun _ h => absurd rfl h⟩) (by rw [hs, o.ar_eq])
            · split at hv
              · rename_i hk
                cases hv
                have hne := hb.resolve_left (by simp)
                simp only [o.need_eq, Option.some.injEq] at hne
                exact fin (by rw [hs]; exact ⟨hne, fun _ _ => by simpa using hk⟩) (by rw [hs, o.ar_eq])
              · cases hv
          · rename_i hs
            split at hv
            · rename_i hk
              cases hv
              exact fin (by rw [hs]; simpa using hk) (by rw [hs, o.cmp_eq])
            · cases hv
        · rename_i p q hp hq
          rw [hp] at d1
          rw [hq] at d2
          have e1 := den_str.1 d1
          have e2 := den_str.1 d2
          split at hv
          · cases hv
            exact ⟨_, den_bool.2 rfl, fun w => by simp [execOp, e1, e2, eqGuard, (str_run w).1, o.steq_eq]⟩
          · cases hv
            exact ⟨_, den_bool.2 rfl, fun w => by simp [execOp, e1, e2, eqGuard, (str_run w).2, o.steq_eq, o.not_eq]⟩
          · cases hv
        · cases hv
      have strs : isAggB P t = some true → eqsI P op t rx ry = some i → Yld P a ⟨dst, .binOp op t x y ty2, ty, pos, after, gd⟩ φ v := by
        intro hag hi
        unfold eqsI at hi
        split at hi
        · rename_i ps hps
          split at hi
          · rename_i hgd
            obtain ⟨hsz, g, hg, hg1⟩ := eqT_size 8 t ps hps
            have main : ∀ neg : Bool, op = (if neg then .neq else .eql) → i = .eqs neg ps rx ry → Yld P a ⟨dst, .binOp op t x y ty2, ty, pos, after, gd⟩ φ v := by
              intro neg hop hi
              subst hi
              simp only [pval] at hv
              split at hv
              · rename_i ca cb ha hb'
                rw [ha] at d1
                rw [hb'] at d2
                obtain ⟨xs, dxs, e1⟩ := den_agg.1 d1
                obtain ⟨ys, dys, e2⟩ := den_agg.1 d2
                split at hv
                · rename_i ma
                  split at hv
                  · rename_i mb
                    have hgt : g = true := by rw [hag] at hg; cases hg; rfl
                    subst hgt
                    have he : ∀ w, (Op.equalIn 10000 t (.agg xs.toArray) (.agg ys.toArray)).run P w = .ok (eqL ca cb) w := fun w =>
                      equal_flat 8 10000 t ps true ca cb (.agg ca) (.agg cb) _ _ w (by omega) hps hg rfl rfl ma mb (den_agg.2 ⟨xs, dxs, rfl⟩) (den_agg.2 ⟨ys, dys, rfl⟩)
                    cases neg <;> simp only at hv <;> cases hv
                    · refine ⟨_, den_bool.2 rfl, fun w => ?_⟩
                      subst hop
                      simp only [execOp, e1, e2, Sem.run_bind, run_eqGuard_agg _ _ _ _ _ _ _ hgd, Result.andThen_ok, Bool.false_eq_true, if_false, run_eql_struct, he w, o.eqs_eq, Sem.run_pure]
                    · refine ⟨_, den_bool.2 rfl, fun w => ?_⟩
                      subst hop
                      simp only [execOp, e1, e2, Sem.run_bind, run_eqGuard_agg _ _ _ _ _ _ _ hgd, Result.andThen_ok, if_true, run_neq_struct, he w, o.eqs_eq, o.not_eq, Sem.run_pure]
                  · cases hv
                · cases hv
              · cases hv
            split at hi
            · cases hi; exact main false rfl rfl
            · cases hi; exact main true rfl rfl
            · cases hi
          · cases hi
        · cases hi
      split at hc
      · cases hc; exact bins rfl
      · cases hc; exact bins rfl
      · rename_i hu
        have hcs : isAggB P t = some true := by simp [isAggB, hu]
        exact strs hcs hc
      · rename_i hu; exact eqp .bool _ hu rfl rfl hc
      · rename_i e hu; exact eqp .ptr _ hu rfl rfl hc
      · rename_i e hu; exact eqp .sl _ hu rfl rfl hc
      · rename_i e1 e2 hu; exact eqp .map _ hu rfl rfl hc
      · rename_i e1 e2 e3 hu; exact eqp .fn _ hu rfl rfl hc
      · rename_i ms hu
        split at hc
        · rename_i hcst; exact eqp .iface _ hu rfl hcst hc
        · cases hc
      · cases hc
    · cases hc
  case unOp op t x =>
    split at hc
    · rename_i r h1
      cases hc
      have d1 := (hr x (by simp)).get h1
      simp only [pval] at hv
      split at hv
      · rename_i b hbv
        cases hv
        rw [hbv] at d1
        have e1 := den_bool.1 d1
        exact ⟨_, den_bool.2 rfl, fun w => by simp [execOp, e1, Op.unary, o.not_eq]⟩
      · cases hv
    · rename_i r h1
      cases hc
      have d1 := (hr x (by simp)).get h1
      simp only [pval] at hv
      split at hv
      · rename_i k n hn
        cases hv
        rw [hn] at d1
        have e1 := den_int.1 d1
        exact ⟨_, den_int.2 rfl, fun w => by simp [execOp, e1, Op.unary, Op.intArith, o.ar_eq, arith]⟩
      · cases hv
    · cases hc
  case convert s d x =>
    split at hc
    · rename_i k1 k2 r hs hd h1
      cases hc
      have d1 := (hr x (by simp)).get h1
      simp only [pval] at hv
      split at hv
      · rename_i k n hn
        cases hv
        rw [hn] at d1
        have e1 := den_int.1 d1
        exact ⟨_, den_int.2 rfl, fun w => by simp [execOp, e1, convert, run_underlying hs, run_underlying hd, Conv.intToInt, o.wr_eq]⟩
      · cases hv
    · cases hc
  case makeInterface t x =>
    split at hc
    · cases hc
    · rename_i d r hni hd h1
      cases hc
      have d1 := (hr x (by simp)).get h1
      simp only [pval] at hv
      cases hv
      refine ⟨_, den_iface.2 ⟨_, d1, rfl⟩, fun w => ?_⟩
      simp only [execOp, Instr.makeInterface, Sem.run_bind, run_underlying hd, Result.andThen_ok]
      cases d <;> first | rfl | exact absurd hd (hni _)
    · cases hc
  case makeFunc fn first cap =>
    split at hc
    · rename_i f
      split at hc
      · rename_i ra rb h1 h2
        cases hc
        simp only [pval] at hv
        cases hv
        have e1 := rds_den h1 (fun x hx => hr x (by simp only [Array.mem_append]; exact .inl (by simpa using hx)))
        have e2 := rds_den h2 (fun x hx => hr x (by simp only [Array.mem_append]; exact .inr (by simpa using hx)))
        refine ⟨_, den_fn.2 ⟨_, _, e1, e2, rfl⟩, fun w => ?_⟩
        simp only [execOp, Instr.makeFunc, Sem.run_bind, Sem.run_pure, Result.andThen_ok]
        rw [← Array.toList_map, ← Array.toList_map, Array.toArray_toList, Array.toArray_toList]
      · cases hc
    · cases hc
  case fieldAddr s x f =>
    split at hc
    · rename_i fs r hu h1
      split at hc
      · rename_i fd hf
        split at hc
        · rename_i n hn
          split at hc
          · cases hc
          · rename_i hn0
            cases hc
            have d1 := (hr x (by simp)).get h1
            simp only [pval] at hv
            have hrun : ∀ (b s' off : Nat) (w : World), (Instr.fieldAt s (.pointer (some ⟨b, off, none⟩)) f).run P w = .ok (.pointer (some ⟨b, off + fd.offset, none⟩)) w := by
              intro b s' off w
              simp only [Instr.fieldAt, Sem.run_bind, run_underlying hu, Result.andThen_ok, hf, Instr.sureAddr, Sem.run_pure, fieldPlace, run_sizeOf' hn, Sem.run_ite, if_neg hn0]
              unfold Addr.add
              split <;> simp_all
            split at hv
            · rename_i id off hid
              cases hv
              rw [hid] at d1
              obtain ⟨b, s', hφ, he⟩ := den_ptr.1 d1
              refine ⟨_, den_ptr.2 ⟨b, s', hφ, rfl⟩, fun w => ?_⟩
              simp [execOp, he, hrun b s', Nat.add_assoc]
            · rename_i id e j off hid
              cases hv
              rw [hid] at d1
              obtain ⟨b, s', hφ, he⟩ := den_elt.1 d1
              refine ⟨_, den_elt.2 ⟨b, s', hφ, rfl⟩, fun w => ?_⟩
              simp [execOp, he, hrun b s', Nat.add_assoc]
            · cases hv
        · cases hc
      · cases hc
    · cases hc
  case field s x f =>
    split at hc
    · rename_i fs r hu h1
      split at hc
      · rename_i fd hf
        split at hc
        · rename_i n g hn hg
          split at hc
          · rename_i hgn
            cases hc
            have d1 := (hr x (by simp)).get h1
            simp only [pval] at hv
            split at hv
            · rename_i cs hcs
              rw [hcs] at d1
              obtain ⟨l, hl, he⟩ := den_agg.1 d1
              split at hv
              · rename_i q hq
                split at hv
                · rename_i u hpk
                  cases hv
                  obtain ⟨y, hy, _⟩ := run_part' hg hn hgn hl hq hpk default
                  refine ⟨y, hy, fun w => ?_⟩
                  obtain ⟨y', hy', hrun⟩ := run_part' hg hn hgn hl hq hpk w
                  rw [hy] at hy'
                  injection hy' with hy'
                  subst hy'
                  simp [execOp, Instr.field, run_underlying hu, he, hf, asAgg, hrun]
                · cases hv
              · cases hv
            · cases hv
          · cases hc
        · cases hc
      · cases hc
    · cases hc
  case indexAddr t x ix =>
    split at hc
    · rename_i e rx ri hu h1 h2
      simp only [Option.map_eq_some_iff] at hc
      obtain ⟨n, hn, rfl⟩ := hc
      have d1 := (hr x (by simp)).get h1
      have d2 := (hr ix (by simp)).get h2
      simp only [pval] at hv
      split at hv
      · rename_i id es s len cap k j hs hj
        split at hv
        · rename_i hbe
          cases hv
          have hes : es = n := Nat.eq_of_beq_eq_true hbe
          subst hes
          rw [← den_unO, hs] at d1
          rw [hj] at d2
          obtain ⟨b, s', kc, hφ, hkc, he⟩ := den_slc.1 d1
          have e2 := den_int.1 d2
          have hin := hb.resolve_left (by simp)
          simp only [o.inb_eq, Option.some.injEq, decide_eq_true_eq] at hin
          refine ⟨_, den_elt.2 ⟨b, s', hφ, rfl⟩, fun w => ?_⟩
          simp only [execOp, he, e2, Instr.indexAt, asIntOf, Sem.run_bind, Sem.run_pure, Result.andThen_ok, run_underlying hu, Sem.run_ite, if_pos hin, run_sizeOf' hn, o.nadd_eq, o.nat_eq]
          congr 3
          unfold Addr.add
          simp only [Nat.add_zero, Nat.add_mul]
          split
          · rename_i h0; simp [h0]
          · simp [Nat.add_assoc]
        · cases hv
      · cases hv
    · rename_i len e rx ri hu h1 h2
      split at hc
      · split at hc
        · cases hc
        · cases hc; simp [pval] at hv
      · cases hc
    · cases hc
  case extract x ix =>
    simp only [Option.map_eq_some_iff] at hc
    obtain ⟨r, hx, rfl⟩ := hc
    have d1 := (hr x (by simp)).get hx
    simp only [pval] at hv
    split at hv
    · rename_i vs hvs
      rw [hvs] at d1
      obtain ⟨l, hl, he⟩ := den_tup.1 d1
      split at hv
      · rename_i u hu
        cases hv
        rw [lget_eq] at hu
        obtain ⟨y, hy, hyl⟩ := denL_get hl hu
        exact ⟨y, hy, fun w => by simp [execOp, Instr.extract, he, hyl]⟩
      · cases hv
    · cases hv
  case call c =>
    split at hc
    · cases hc
    · rename_i args hargs
      have hops : ∀ x ∈ c.args.toList, RdR φ N env a x := fun x hx => hr x (by simp only [Call.operands, Array.mem_append]; exact .inr (by simpa using hx))
      have dargs := rds_den hargs hops
      split at hc
      · cases hc; simp [pval] at hv
      · simp only [Option.map_eq_some_iff] at hc; obtain ⟨_, _, rfl⟩ := hc; simp [pval] at hv
      · simp only [Option.map_eq_some_iff] at hc; obtain ⟨_, _, rfl⟩ := hc; simp [pval] at hv
      · rename_i hcal
        split at hc
        · rename_i x t ht
          have hl1 : c.args.toList.map a.eval = [((c.args.toList.map a.eval).head?).getD undef] ∧ den φ (x.ev env) = some (((c.args.toList.map a.eval).head?).getD undef) := by
            simp only [evs] at dargs
            obtain ⟨y, s, hy, hs, he⟩ := denL_cons.1 dargs
            simp [denL] at hs; subst hs
            rw [he]; exact ⟨rfl, hy⟩
          obtain ⟨hl1, hl2⟩ := hl1
          generalize (((c.args.toList.map a.eval).head?).getD undef) = y at hl1 hl2
          have hmap : c.args.map a.eval = #[y] := by
            apply Array.toList_inj.1; rw [Array.toList_map, hl1]
          have base : ∀ (m : Nat), v = .int .i64 (Int.ofNat m) → (∀ w, (Builtin.len_ c.argTypes ty #[y]).run P w = .ok (.int .i64 (m : Int)) w) → Yld P a ⟨dst, .call c, ty, pos, after, gd⟩ φ v := by
            intro m hvm hrun
            refine ⟨_, by rw [hvm]; exact den_int.2 rfl, fun w => ?_⟩
            simp [execOp, resolve, hcal, hmap, invoke, builtin, hrun w]
          have hty : (c.argTypes[0]? : Option TypeId) = some t := ht
          split at hc
          · rename_i e hu
            cases hc
            simp only [pval] at hv
            split at hv <;> cases hv <;> rename_i hev <;> rw [hev] at hl2
            · obtain ⟨b, s', kc, hφ, hkc, he⟩ := den_slc.1 hl2
              subst he
              exact base _ rfl fun w => by simp [Builtin.len_, hty, run_underlying hu, goInt]
            · rename_i oid _ _ _ _
              cases oid with
              | none =>
                simp only [den] at hl2
                split at hl2 <;> cases hl2
                rename_i hz
                exact base _ rfl fun w => by simp [Builtin.len_, hty, run_underlying hu, goInt, hz.1]
              | some id =>
                simp only [den, Option.map_eq_some_iff] at hl2
                obtain ⟨p, _, rfl⟩ := hl2
                exact base _ rfl fun w => by simp [Builtin.len_, hty, run_underlying hu, goInt]
            · simp only [den, Option.some.injEq] at hl2
              subst hl2
              exact base _ rfl fun w => by simp [Builtin.len_, hty, run_underlying hu, goInt]
          · rename_i hu
            cases hc
            simp only [pval] at hv
            split at hv <;> cases hv
            rename_i hev
            rw [hev] at hl2
            have he := den_str.1 hl2
            subst he
            exact base _ (by rw [o.size_eq]) fun w => by simp [Builtin.len_, hty, run_underlying hu, goInt]
          · cases hc
            simp only [pval] at hv
            cases hv
          · cases hc
            simp only [pval] at hv
            cases hv
          · cases hc
        · cases hc
      · -- copy
        split at hc
        · split at hc
          · split at hc
            · split at hc
              · cases hc
                simp only [pval] at hv
                cases hv
              · cases hc
            · cases hc
          · cases hc
        · cases hc
      · split at hc
        · obtain ⟨_, _, _, _, _, h2⟩ := mapI_is hc
          simp only [mdlI] at h2
          cases h2
          simp only [pval] at hv
          cases hv
        · cases hc
      · rename_i hcal
        split at hc
        · rename_i x y
          cases hc
          simp only [evs] at dargs
          obtain ⟨u, s, hu, hs, he⟩ := denL_cons.1 dargs
          obtain ⟨u2, s2, hu2, hs2, he2⟩ := denL_cons.1 hs
          simp [denL] at hs2; subst hs2; subst he2
          have hmap : c.args.map a.eval = #[u, u2] := by
            apply Array.toList_inj.1; rw [Array.toList_map, he]
          simp only [pval] at hv
          split at hv
          · rename_i k m k' n hm hn
            cases hv
            rw [hm] at hu
            rw [hn] at hu2
            have e1 := den_int.1 hu
            have e2 := den_int.1 hu2
            subst e1
            subst e2
            exact ⟨_, den_int.2 rfl, fun w => by simp [execOp, resolve, hcal, hmap, invoke, builtin, Builtin.min_, Builtin.min2, o.mn_eq]⟩
          · cases hv
        · cases hc
      · rename_i hcal
        split at hc
        · rename_i x y
          cases hc
          simp only [evs] at dargs
          obtain ⟨u, s, hu, hs, he⟩ := denL_cons.1 dargs
          obtain ⟨u2, s2, hu2, hs2, he2⟩ := denL_cons.1 hs
          simp [denL] at hs2; subst hs2; subst he2
          have hmap : c.args.map a.eval = #[u, u2] := by
            apply Array.toList_inj.1; rw [Array.toList_map, he]
          simp only [pval] at hv
          split at hv
          · rename_i k m k' n hm hn
            cases hv
            rw [hm] at hu
            rw [hn] at hu2
            have e1 := den_int.1 hu
            have e2 := den_int.1 hu2
            subst e1
            subst e2
            exact ⟨_, den_int.2 rfl, fun w => by simp [execOp, resolve, hcal, hmap, invoke, builtin, Builtin.max_, Builtin.max2, o.mx_eq]⟩
          · cases hv
        · cases hc
      all_goals
        repeat' split at hc
        all_goals (cases hc; try (simp [pval] at hv))
  case alloc | box =>
    simp only [Option.map_eq_some_iff] at hc
    obtain ⟨r, hx, rfl⟩ := hc
    simp [pval] at hv
  case slice t x low high mx =>
    split at hc
    · rename_i e rx lo hi hu hx hlo hhi
      simp only [Option.map_eq_some_iff] at hc
      obtain ⟨sz, hsz, rfl⟩ := hc
      have d1 := (hr x (by simp)).get hx
      have dlo := rdo_ok hlo (fun y hy => hr y (by cases hy; simp))
      have dhi := rdo_ok hhi (fun y hy => hr y (by cases hy; simp))
      simp only [pval] at hv
      split at hv
      · rename_i id e' s n cid hev
        rw [hev] at d1
        obtain ⟨b, st, k, hφ, hkc, hex⟩ := den_slc.1 d1
        obtain ⟨p, _, hpl, hpk⟩ := cap_v hkc
        split at hv
        · rename_i hbe
          have hee : e' = sz := Nat.eq_of_beq_eq_true hbe
          subst hee
          have fin : ∀ {l h : Nat} {v : VV}, (∀ w, (Instr.sliceBounds true n k (low.map a.eval) (high.map a.eval) none).run P w = .ok (l, h, k) w) → l ≤ h → h ≤ n → (l = 0 ∨ l < n) → v = .sl id e' (s + l) (h - l) (.v cid) → Yld P a ⟨dst, .slice t x low high none, ty, pos, after, gd⟩ φ v := by
            rintro l h v hb h1 h2 h3 rfl
            refine ⟨_, den_slicedv hφ hkc h1 h2 h3, fun w => ?_⟩
            simp only [execOp, hex, Instr.sliceAt, Sem.run_bind, Option.map_none, run_underlying hu, Result.andThen_ok]
            rw [run_slice' hu hsz w (hb w)]
            rfl
          split at hv
          · rcases dlo with ⟨rfl, _⟩ | ⟨_, _, _, h0, _⟩
            rotate_left
            · cases h0
            rcases dhi with ⟨rfl, _⟩ | ⟨_, _, _, h0, _⟩
            rotate_left
            · cases h0
            cases hv
            exact fin (l := 0) (h := n) (fun w => by simp [Instr.sliceBounds]) (Nat.zero_le _) (Nat.le_refl _) (.inl rfl) rfl
          · rename_i h
            rcases dlo with ⟨rfl, _⟩ | ⟨_, _, _, h0, _⟩
            rotate_left
            · cases h0
            rcases dhi with ⟨_, h0⟩ | ⟨y, z, rfl, h0, dh⟩ <;> cases h0
            split at hv
            · rename_i kk m hm
              cases hv
              rw [hm] at dh
              have e1 := den_int.1 dh
              simp [o.slb_eq] at hb
              refine fin (l := 0) (h := m.toNat) (fun w => ?_) (Nat.zero_le _) (by omega) (.inl rfl) ?_
              · simp [Instr.sliceBounds, run_sliceBound (P := P) e1 hb.1 (show m ≤ (k : Int) by omega)]
              · simp [o.nat_eq]
            · cases hv
          · rename_i l
            rcases dhi with ⟨rfl, _⟩ | ⟨_, _, _, h0, _⟩
            rotate_left
            · cases h0
            rcases dlo with ⟨_, h0⟩ | ⟨y, z, rfl, h0, dl⟩ <;> cases h0
            split at hv
            · rename_i kk m hm
              cases hv
              rw [hm] at dl
              have e1 := den_int.1 dl
              simp [o.slv_eq] at hb
              refine fin (l := m.toNat) (h := n) (fun w => ?_) (by omega) (Nat.le_refl _) (by omega) ?_
              · simp [Instr.sliceBounds, run_sliceBound (P := P) e1 hb.1 hb.2.1]
              · simp [o.nat_eq, o.nsub_eq, o.nadd_eq]
            · cases hv
          · rename_i l h
            rcases dlo with ⟨_, h0⟩ | ⟨y, z, rfl, h0, dl⟩ <;> cases h0
            rcases dhi with ⟨_, h0⟩ | ⟨y', z', rfl, h0, dh⟩ <;> cases h0
            split at hv
            · rename_i kk m k' m' hm hm'
              cases hv
              rw [hm] at dl
              rw [hm'] at dh
              have e1 := den_int.1 dl
              have e2 := den_int.1 dh
              simp [o.slv_eq] at hb
              refine fin (l := m.toNat) (h := m'.toNat) (fun w => ?_) (by omega) (by omega) (by omega) ?_
              · have h3 : m ≤ (m'.toNat : Int) := by omega
                simp [Instr.sliceBounds, run_sliceBound (P := P) e1 hb.1 h3, run_sliceBound (P := P) e2 (show (0 : Int) ≤ m' by omega) (show m' ≤ (k : Int) by omega)]
              · simp [o.nat_eq, o.nsub_eq, o.nadd_eq]
            · cases hv
        · cases hv
      · rename_i id e' s n cap hev
        rw [hev] at d1
        obtain ⟨b, st, hφ, hex⟩ := den_sl.1 d1
        split at hv
        · rename_i hbe
          have hee : e' = sz := Nat.eq_of_beq_eq_true hbe
          subst hee
          have fin : ∀ {l h : Nat} {v : VV}, (∀ w, (Instr.sliceBounds true n cap (low.map a.eval) (high.map a.eval) none).run P w = .ok (l, h, cap) w) → v = .sl id e' (if cap = l then s else s + l) (h - l) (cap - l) → Yld P a ⟨dst, .slice t x low high none, ty, pos, after, gd⟩ φ v := by
            rintro l h v hb rfl
            refine ⟨_, den_sliced hφ, fun w => ?_⟩
            simp only [execOp, hex, Instr.sliceAt, Sem.run_bind, Option.map_none, run_underlying hu, Result.andThen_ok]
            rw [run_slice' hu hsz w (hb w)]
            rfl
          split at hv
          · rcases dlo with ⟨rfl, _⟩ | ⟨_, _, _, h0, _⟩
            rotate_left
            · cases h0
            rcases dhi with ⟨rfl, _⟩ | ⟨_, _, _, h0, _⟩
            rotate_left
            · cases h0
            cases hv
            refine fin (l := 0) (h := n) (fun w => by simp [Instr.sliceBounds]) ?_
            split <;> simp
          · rename_i h
            rcases dlo with ⟨rfl, _⟩ | ⟨_, _, _, h0, _⟩
            rotate_left
            · cases h0
            rcases dhi with ⟨_, h0⟩ | ⟨y, z, rfl, h0, dh⟩ <;> cases h0
            split at hv
            · rename_i k m hm
              cases hv
              rw [hm] at dh
              have e1 := den_int.1 dh
              simp [o.slb_eq] at hb
              refine fin (l := 0) (h := m.toNat) (fun w => ?_) ?_
              · simp [Instr.sliceBounds, run_sliceBound (P := P) e1 hb.1 hb.2]
              · simp [o.nat_eq]
            · cases hv
          · rename_i l
            rcases dhi with ⟨rfl, _⟩ | ⟨_, _, _, h0, _⟩
            rotate_left
            · cases h0
            rcases dlo with ⟨_, h0⟩ | ⟨y, z, rfl, h0, dl⟩ <;> cases h0
            split at hv
            · rename_i k m hm
              cases hv
              rw [hm] at dl
              have e1 := den_int.1 dl
              simp [o.slb_eq] at hb
              refine fin (l := m.toNat) (h := n) (fun w => ?_) ?_
              · simp [Instr.sliceBounds, run_sliceBound (P := P) e1 hb.1 hb.2.1]
              · simp [o.nat_eq, o.nsub_eq, o.soff_eq]
            · cases hv
          · rename_i l h
            rcases dlo with ⟨_, h0⟩ | ⟨y, z, rfl, h0, dl⟩ <;> cases h0
            rcases dhi with ⟨_, h0⟩ | ⟨y', z', rfl, h0, dh⟩ <;> cases h0
            split at hv
            · rename_i k m k' m' hm hm'
              cases hv
              rw [hm] at dl
              rw [hm'] at dh
              have e1 := den_int.1 dl
              have e2 := den_int.1 dh
              simp [o.slb_eq] at hb
              refine fin (l := m.toNat) (h := m'.toNat) (fun w => ?_) ?_
              · have h3 : m ≤ (m'.toNat : Int) := by omega
                simp [Instr.sliceBounds, run_sliceBound (P := P) e2 (by omega : 0 ≤ m') hb.2.2, run_sliceBound (P := P) e1 hb.1 h3]
              · simp [o.nat_eq, o.nsub_eq, o.soff_eq]
            · cases hv
        · cases hv
      · cases hv
    · cases hc
  all_goals
    repeat' split at hc
    all_goals first
      | (cases hc; done)
      | (cases hc; simp [pval] at hv; done)
      | (simp only [Option.map_eq_some_iff] at hc; obtain ⟨_, _, rfl⟩ := hc; simp [pval] at hv; done)
      | (obtain ⟨_, _, _, _, _, h2⟩ := mapI_is hc; obtain ⟨_, _, rfl⟩ := mlkI_is h2; simp only [pval] at hv; cases hv)
      | (obtain ⟨_, _, _, _, _, h2⟩ := mapI_is hc; simp only [mupI] at h2; cases h2; simp only [pval] at hv; cases hv)
end
end Go.SL
