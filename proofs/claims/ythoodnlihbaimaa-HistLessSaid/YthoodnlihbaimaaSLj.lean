/- A symbolic executor over the model: one operation, carried out. -/
import Derived.Test.YthoodnlihbaimaaSLi
import Derived.Test.YthoodnlihbaimaaSLjm
import Derived.Laws.AppendOwn
namespace Go.SL
section
variable {P : Program} {W0 : World} {RE : (Env → List VB → Prop) → Env → List VB → Prop} {o : Ops (Ev P W0) RE} {cand : List TypeId} {N : Nat} {φ : Phi} {env : Env} {a : Act} {V : List VB} {h : Nat → Frag} {w : World}

theorem callFunc_run {f : FuncId} (hf : okFn P f = true) (args : Array Value) (w : World) : (callFunc f args).run P w = .ok (.enter f args) w := by
  unfold okFn at hf
  unfold callFunc
  simp only [Sem.run_bind, run_program, Result.andThen_ok]
  split at hf
  · rename_i fn hfn
    simp only [hfn]
    simp only [Bool.and_eq_true, bne_iff_ne, ne_eq] at hf
    have h1 : (fn.name == "runtime.NumGoroutine") = false := by simpa using hf.1
    have h2 : fn.body.isNone = false := by cases hb : fn.body <;> simp [hb] at hf ⊢
    simp [h1, h2]
  · cases hf

theorem tail_args (x : Value) (xs : Array Value) : (#[x] ++ xs).extract 1 (#[x] ++ xs).size = xs := by
  apply Array.toList_inj.1
  simp

/-- How an operation's condition is met: it yields a value at once, or a call is begun. -/
inductive Does (P : Program) (W0 : World) (φ : Phi) (h : Nat → Frag) (w : World) (K : VV → List VB → Prop) : Result Next → Prop where
  | value {x : Value} {w' : World} (v : VV) (V' : List VB) (φ' : Phi) (h' : Nat → Frag) (hk : K v V') (hle : φ.le φ') (hE : Emb W0 φ' V' h' w') (hF : Fr h h' w w') (hx : den φ' v = some x) : Does P W0 φ h w K (.ok (.value x) w')
  | skip {w' : World} (V' : List VB) (φ' : Phi) (h' : Nat → Frag) (hk : K vundef V') (hle : φ.le φ') (hE : Emb W0 φ' V' h' w') (hF : Fr h h' w w') : Does P W0 φ h w K (.ok .skip w')
  | enter {f : FuncId} {rargs : List Value} (V : List VB) (args : List VV) (hev : Ev P W0 f args V K) (hE : Emb W0 φ V h w) (ha : denL φ args = some rargs) : Does P W0 φ h w K (.ok (.enter f rargs.toArray) w)

theorem Does.wp {op : Oper} {K : VV → List VB → Prop} (hd : Does P W0 φ h w K ((execOp a.eval op).run P w)) {next : Act → World → Prop} {Q : Exit → Act → World → Prop}
    (hnext : ∀ v V' φ' h' w' x, K v V' → φ.le φ' → Emb W0 φ' V' h' w' → Fr h h' w w' → den φ' v = some x → next (a.put op.dst x) w') : op.wp P a w next Q := by
  unfold Oper.wp
  generalize (execOp a.eval op).run P w = r at hd
  cases hd with
  | value v V' φ' h' hk hle hE hF hx => exact hnext _ _ _ _ _ _ hk hle hE hF hx
  | skip V' φ' h' hk hle hE hF => exact hnext _ _ _ _ _ _ hk hle hE hF rfl
  | enter V args hev hE ha =>
    simp only [Oper.upon]
    refine (hev.2 φ h w hE _ ha).mono ?_
    rintro e w'' ⟨v, x, V', φ', h', rfl, hx, hk, hle, hE', hF⟩
    exact hnext _ _ _ _ _ _ hk hle hE' hF hx

theorem flatten_len {xs : List (List VV)} {e : Nat} (h : ∀ x ∈ xs, x.length = e) : xs.flatten.length = xs.length * e := by
  induction xs with
  | nil => simp
  | cons x xs ih => rw [List.flatten_cons, List.length_append, ih (fun y hy => h y (by simp [hy])), h x (by simp), List.length_cons, Nat.succ_mul]; omega
theorem flatten_drop {e : Nat} : ∀ {xs : List (List VV)} (_ : ∀ x ∈ xs, x.length = e) (s : Nat), (xs.drop s).flatten = xs.flatten.drop (s * e)
  | _, _, 0 => by simp
  | [], _, s + 1 => by simp
  | x :: xs, h, s + 1 => by
    have hx := h x (by simp)
    rw [List.drop_succ_cons, flatten_drop (fun y hy => h y (by simp [hy])) s, List.flatten_cons]
    have : (s + 1) * e = x.length + s * e := by rw [Nat.succ_mul, hx]; omega
    rw [this, List.drop_length_add_append]
theorem flatten_take {e : Nat} : ∀ {xs : List (List VV)} (_ : ∀ x ∈ xs, x.length = e) (s : Nat), (xs.take s).flatten = xs.flatten.take (s * e)
  | _, _, 0 => by simp
  | [], _, s + 1 => by simp
  | x :: xs, h, s + 1 => by
    have hx := h x (by simp)
    rw [List.take_succ_cons, List.flatten_cons, flatten_take (fun y hy => h y (by simp [hy])) s, List.flatten_cons]
    have : (s + 1) * e = x.length + s * e := by rw [Nat.succ_mul, hx]; omega
    rw [this, List.take_length_add_append]
theorem allOne_append {l m : List VV} (h1 : allOne l = true) (h2 : allOne m = true) : allOne (l ++ m) = true := by
  induction l with
  | nil => exact h2
  | cons a l ih =>
    simp only [List.cons_append, allOne] at h1 ⊢
    split at h1
    · exact ih h1
    · cases h1
theorem allOne_flatten {xs : List (List VV)} (h : xs.all allOne = true) : allOne xs.flatten = true := by
  induction xs with
  | nil => rfl
  | cons x xs ih =>
    simp only [List.all_cons, Bool.and_eq_true] at h
    rw [List.flatten_cons]
    exact allOne_append h.1 (ih h.2)

theorem append_types {tys : Array TypeId} {t ty : TypeId} {args : Array Value} (h0 : tys[0]? = some t) (h1 : tys[1]? = some t) : Builtin.append_ tys ty args = Builtin.append_ #[t, t] ty args := by
  have e0 : (#[t, t] : Array TypeId)[0]? = some t := rfl
  have e1 : (#[t, t] : Array TypeId)[1]? = some t := rfl
  unfold Builtin.append_
  rw [h0, h1, e0, e1]

theorem run_append_at (t ty e : TypeId) (i : TypeInfo) (ht : P.underlying t = some (.slice e)) (hi : P.info? e = some i)
    (g sLen sCap : Nat) (cur : Array Value) (T : TypeId) (hg : w.heap[g]? = some (.cells cur T (0, 0)))
    (a : Addr) (m c : Nat) (news : List Value) (hl : news.length = m * i.size) (hnews : ∀ j u, news[j]? = some u → w.cell? (a.add j) = some u) (h1 : ∀ u ∈ news, u.oneCell' = true)
    (hroom : sLen + m ≤ sCap) (hfit : sLen * i.size + news.length ≤ cur.size) :
    (Builtin.append_ #[t, t] ty #[.slice (some ⟨g, 0, none⟩) sLen sCap, .slice (some a) m c]).run P w =
      .ok (.slice (some ⟨g, 0, none⟩) (sLen + m) sCap) (w.setRow g (cur.toList.take (sLen * i.size) ++ news ++ cur.toList.drop (sLen * i.size + news.length)).toArray) := by
  have hf := run_firstCells_some (P := P) w i.size m a m c news hl hnews
  have hst := run_storeCells_at P g (sLen * i.size) T news 0 cur w hg (by simpa using hfit) h1
  simp only [Nat.add_zero] at hst
  simp [Builtin.append_, run_underlying ht, sizeOf, typeInfo, hi, Builtin.lenOf, hroom, hf, Addr.add_lit, hst]

/-- What is appended lies there. -/
theorem appSrc_ok {esz : Nat} {y : VV} {ys : List (List VV)} {m : Nat} (h0 : appSrc o esz y V = some (ys, m)) (hE : Emb W0 φ V h w) {x : Value} (hx : den φ y = some x) (hm : ys.length = m) :
    ∃ ad c news, x = .slice (some ad) m c ∧ denL φ ys.flatten = some news ∧ news.length = m * esz ∧ (∀ z ∈ ys, z.length = esz) ∧ ∀ j u, news[j]? = some u → w.cell? (ad.add j) = some u := by
  unfold appSrc at h0
  rw [← den_unO] at hx
  generalize unO y = y at h0 hx
  split at h0
  · rename_i id e s m' c
    obtain ⟨b, st, kc, hφ, hkc, rfl⟩ := den_slc.1 hx
    have fin : ∀ (zs : List (List VV)) (r : List Value), e = esz → ys = o.sub zs s m → m' = m → denL φ zs.flatten = some r → (∀ x ∈ zs, x.length = esz) → holdsAt w b st r →
        ∃ ad c' news, Value.slice (some ⟨b, st + s * e, none⟩) m' kc = .slice (some ad) m c' ∧ denL φ ys.flatten = some news ∧ news.length = m * esz ∧ (∀ z ∈ ys, z.length = esz) ∧ ∀ j u, news[j]? = some u → w.cell? (ad.add j) = some u := by
      rintro zs r rfl rfl rfl hr hall hw
      rw [o.sub_eq] at hm ⊢
      have hal : ∀ z ∈ (zs.drop s).take m', z.length = e := fun z hz => hall z (List.mem_of_mem_drop (List.mem_of_mem_take hz))
      have hd : denL φ ((zs.drop s).take m').flatten = some ((r.drop (s * e)).take (m' * e)) := by
        rw [flatten_take (fun z hz => hall z (List.mem_of_mem_drop hz)), flatten_drop hall]
        exact denL_take _ (denL_drop _ hr)
      refine ⟨_, kc, _, rfl, hd, ?_, hal, ?_⟩
      · rw [denL_length hd, flatten_len hal, hm]
      · intro j u hj
        rw [List.getElem?_take] at hj
        split at hj
        · rw [List.getElem?_drop] at hj
          have := hw _ u hj
          rw [Addr.add_lit]
          rw [Nat.add_assoc] 
          exact this
        · cases hj
    split at h0
    · rename_i hbe
      have hee : e = esz := Nat.eq_of_beq_eq_true hbe
      split at h0
      · rename_i e' zs tot hV
        split at h0
        · rename_i hbe2
          have hee2 : e' = esz := Nat.eq_of_beq_eq_true hbe2
          subst hee2
          cases h0
          rw [lget_eq] at hV
          obtain ⟨b', l, rest, T, g1, g2, g3, g4, g5⟩ := hE.sat id _ hV
          rw [g1] at hφ; cases hφ
          refine fin zs l hee rfl rfl g2 g5 ?_
          intro k u hk
          have hw := (hE.sub id b _ g3).2
          have hkl : k < l.length := (List.getElem?_eq_some_iff.1 hk).1
          simp only [World.cell?, hw]
          simp [List.getElem?_append_left hkl, hk]
        · cases h0
      · rename_i e' zs hV
        split at h0
        · rename_i hbe2
          have hee2 : e' = esz := Nat.eq_of_beq_eq_true hbe2
          subst hee2
          cases h0
          rw [lget_eq] at hV
          obtain ⟨b', s', l, g1, g2, g3, g4⟩ := hE.sat id _ hV
          rw [g1] at hφ; cases hφ
          refine fin zs l hee rfl rfl g2 g3 ?_
          intro k u hk
          have := g4 k u hk
          have hlt : b < W0.heap.size := by
            unfold World.cell? at this
            split at this
            · rename_i hb; exact (Array.getElem?_eq_some_iff.1 hb).1
            · cases this
          unfold World.cell? at this ⊢
          rw [hE.old b hlt]
          exact this
        · cases h0
      · cases h0
    · cases h0
  · cases h0

/-- An append to nothing, carried out: the row is a new one, its capacity a number or kept in an entry of its own. -/
theorem app_nil {t ty e : TypeId} {i : TypeInfo} {z : Value} (ht : P.underlying t = some (.slice e)) (hi : P.info? e = some i) (hz : i.zero = some z) (hzs : z.cells.size = i.size)
    (hby : i.bytes ≠ 0) (hE : Emb W0 φ V h w) {ys : List (List VV)} {m c0 : Nat} {ad : Addr} {news : List Value} (hnd : denL φ ys.flatten = some news) (hnl : news.length = m * i.size) (hyl : ∀ z ∈ ys, z.length = i.size)
    (hnw : ∀ j v, news[j]? = some v → w.cell? (ad.add j) = some v) (h1 : 1 ≤ m) (h2 : m * i.bytes ≤ 140737488355328) (tot : Cap) (htot : tot.tot φ i.size = some (grownCap w m 0 e * i.size)) (cap : Cap) (hcap : cap.cap φ 0 m = some (grownCap w m 0 e)) :
    ∃ x' φ' h' w', φ.le φ' ∧ Emb W0 φ' (V ++ [.arr i.size ys tot]) h' w' ∧ Fr h h' w w' ∧ den φ' (.sl V.length i.size 0 m cap) = some x' ∧ (Builtin.append_ #[t, t] ty #[.slice none 0 0, .slice (some ad) m c0]).run P w = .ok x' w' := by
  have hnone : φ V.length = none := hE.dom _ (Nat.le_refl _)
  have zl : ∀ n, (Builtin.zeroCells z.cells n).toList.length = n * i.size := by intro n; rw [Array.length_toList, size_zeroCells, hzs]
  have hbm : m ≤ m * i.bytes := Nat.le_mul_of_pos_right m (by omega)
  have hr := run_append_nil (P := P) w t ty e i z ht hi hz ad m c0 news hnl hnw (by omega) (by omega) (by omega)
  have hge := grownCap_ge w m 0 e
  have hE1 : Emb W0 φ V h w.drew := hE.heap rfl
  have hle := Phi.le_set (p := (w.drew.heap.size, 0)) hnone
  obtain ⟨b1, b2⟩ := born_last (V := V) (vb := VB.arr i.size ys tot) V.length rfl
  have hb := hE1.born (ob := .cells (news.toArray ++ Builtin.zeroCells z.cells (grownCap w m 0 e - m)) e (0, 0)) hnone (by simp) b1 b2
    ⟨w.drew.heap.size, news, (Builtin.zeroCells z.cells (grownCap w m 0 e - m)).toList, e, Phi.set_self .., denL_mono hle _ _ hnd, by
      unfold single; rw [if_pos rfl]; congr 2; apply Array.toList_inj.1; simp, by
      rw [Cap.tot_mono hle htot, List.length_append, hnl, zl, ← Nat.add_mul]; congr 2; omega, hyl⟩
  have hh : (w.drew.alloc (.cells (news.toArray ++ Builtin.zeroCells z.cells (grownCap w m 0 e - m)) e (0, 0))).heap = (wpush w.drew (.cells (news.toArray ++ Builtin.zeroCells z.cells (grownCap w m 0 e - m)) e (0, 0))).heap := by
    simp [World.alloc, wpush]
  refine ⟨_, _, _, _, hle, hb.1.heap hh, (hb.2.heap hh ⟨rfl, rfl, rfl⟩).heapl rfl ⟨rfl, rfl, rfl⟩, ?_, hr⟩
  exact den_slc.2 ⟨_, 0, _, Phi.set_self .., Cap.cap_mono hle hcap, by simp⟩

/-- The capacity of what was appended to. -/
def newCap (w : World) (n m c : Nat) (e : TypeId) : Nat := if n + m ≤ c then c else grownCap w (n + m) c e
theorem newCap_ge {w : World} {n m c : Nat} {e : TypeId} : n + m ≤ newCap w n m c e := by
  unfold newCap
  split
  · assumption
  · exact grownCap_ge w (n + m) c e
/-- An append to a row, carried out. -/
theorem app_row {t ty e : TypeId} {i : TypeInfo} {z : Value} (ht : P.underlying t = some (.slice e)) (hi : P.info? e = some i) (hz : i.zero = some z) (hzs : z.cells.size = i.size)
    (hby : i.bytes ≠ 0) (hE : Emb W0 φ V h w) {ys xs : List (List VV)} {m c0 c id b : Nat} {ad : Addr} {news : List Value} {tot0 : Cap} (hnd : denL φ ys.flatten = some news) (hnl : news.length = m * i.size) (hyl : ∀ z ∈ ys, z.length = i.size)
    (hnw : ∀ j v, news[j]? = some v → w.cell? (ad.add j) = some v) (hn1 : ∀ u ∈ news, u.oneCell' = true) (hV : V[id]? = some (.arr i.size xs tot0)) (hφ : φ id = some (b, 0)) (h2 : tot0.tot φ i.size = some (c * i.size)) (h3 : (xs.length + m) * i.bytes ≤ 140737488355328)
    (tot : Cap) (htot : tot.tot φ i.size = some (newCap w xs.length m c e * i.size)) (cap : Cap) (hcap : cap.cap φ 0 (xs.length + m) = some (newCap w xs.length m c e)) :
    ∃ x' φ' h' w', φ.le φ' ∧ Emb W0 φ' (V.set id .emp ++ [.arr i.size (xs ++ ys) tot]) h' w' ∧ Fr h h' w w' ∧ den φ' (.sl V.length i.size 0 (xs.length + m) cap) = some x' ∧ (Builtin.append_ #[t, t] ty #[.slice (some ⟨b, 0, none⟩) xs.length c, .slice (some ad) m c0]).run P w = .ok x' w' := by
  have hnone : φ V.length = none := hE.dom _ (Nat.le_refl _)
  have zl : ∀ n, (Builtin.zeroCells z.cells n).toList.length = n * i.size := by intro n; rw [Array.length_toList, size_zeroCells, hzs]
  obtain ⟨b', l, rest, T, g1, g2, g3, g4, g5⟩ := hE.sat id _ hV
  rw [g1] at hφ; cases hφ
  rw [h2] at g4
  have g4 : (l ++ rest).length = c * i.size := by injection g4 with g4; exact g4.symm
  have hll : l.length = xs.length * i.size := by rw [denL_length g2, flatten_len g5]
  have hb := (hE.sub id b _ g3).2
  have hbm : xs.length + m ≤ (xs.length + m) * i.bytes := Nat.le_mul_of_pos_right _ (by omega)
  have hlt : id < V.length := (List.getElem?_eq_some_iff.1 hV).1
  have hcat : denL φ (xs ++ ys).flatten = some (l ++ news) := by rw [List.flatten_append]; exact denL_append.2 ⟨_, _, g2, hnd, rfl⟩
  have hcl : ∀ z ∈ xs ++ ys, z.length = i.size := by
    intro z hz'
    rcases List.mem_append.1 hz' with hz' | hz'
    · exact g5 z hz'
    · exact hyl z hz'
  by_cases hroom : xs.length + m ≤ c
  · rw [newCap, if_pos hroom] at htot hcap
    have hfit : xs.length * i.size + news.length ≤ (l ++ rest).toArray.size := by
      simp only [List.size_toArray]
      rw [g4, hnl, ← Nat.add_mul]; exact Nat.mul_le_mul_right _ hroom
    have hr := run_append_at (P := P) (w := w) t ty e i ht hi b xs.length c _ T hb ad m c0 news hnl hnw hn1 hroom hfit
    have hrow : (l ++ rest).toArray.toList.take (xs.length * i.size) ++ news ++ (l ++ rest).toArray.toList.drop (xs.length * i.size + news.length) = (l ++ news) ++ rest.drop news.length := by
      simp only []
      rw [← hll, List.take_left, ← List.drop_drop, List.drop_left]
    rw [hrow] at hr
    have hu := hE.upd (new := ((l ++ news) ++ rest.drop news.length).toArray) (vb' := .arr i.size (xs ++ ys) tot) hlt g3
      ⟨b, l ++ news, rest.drop news.length, T, g1, hcat, by exact if_pos rfl, by
        rw [htot]; congr 1
        simp only [List.size_toArray, List.length_append] at hfit g4 ⊢
        rw [List.length_drop]
        omega, hcl⟩
    have hs := hu.1.shift (i := id) (n := V.length) (e := i.size) (tot := tot) (xs := xs ++ ys) (p := (b, 0)) (List.getElem?_set_self hlt) g1 (by simp)
    have hs1 := hs.1
    rw [List.set_set] at hs1
    refine ⟨_, _, _, _, Phi.le_set hnone, hs1, hu.2.trans hs.2, ?_, hr⟩
    exact den_slc.2 ⟨_, 0, _, Phi.set_self .., Cap.cap_mono (Phi.le_set hnone) hcap, by simp⟩
  · rw [newCap, if_neg hroom] at htot hcap
    have hr := run_append_grow (P := P) w t ty e i z ht hi hz ⟨b, 0, none⟩ xs.length c l hll (by
        intro j u hj
        have hkl : j < l.length := (List.getElem?_eq_some_iff.1 hj).1
        rw [Addr.add_lit]
        simp only [World.cell?, hb]
        simp [List.getElem?_append_left hkl, hj]) ad m c0 news hnl hnw (by omega) (by omega) (growslice_fits (by omega) h3)
    have hge := grownCap_ge w (xs.length + m) c e
    have hE1 : Emb W0 φ (V.set id .emp) h w.drew := hE.forget.heap rfl
    have hle := Phi.le_set (p := (w.drew.heap.size, 0)) hnone
    obtain ⟨b1, b2⟩ := born_last (V := V.set id .emp) (vb := VB.arr i.size (xs ++ ys) tot) V.length (by simp)
    have hb' := hE1.born (ob := .cells (l.toArray ++ news.toArray ++ Builtin.zeroCells z.cells (grownCap w (xs.length + m) c e - (xs.length + m))) e (0, 0)) hnone (by simp) b1 b2
      ⟨w.drew.heap.size, l ++ news, (Builtin.zeroCells z.cells (grownCap w (xs.length + m) c e - (xs.length + m))).toList, e, Phi.set_self .., denL_mono hle _ _ hcat, by
        unfold single; rw [if_pos rfl]; congr 2; apply Array.toList_inj.1; simp, by
        rw [Cap.tot_mono hle htot, List.length_append, List.length_append, hnl, hll, zl, ← Nat.add_mul, ← Nat.add_mul]; congr 2; omega, hcl⟩
    have hh : (w.drew.alloc (.cells (l.toArray ++ news.toArray ++ Builtin.zeroCells z.cells (grownCap w (xs.length + m) c e - (xs.length + m))) e (0, 0))).heap = (wpush w.drew (.cells (l.toArray ++ news.toArray ++ Builtin.zeroCells z.cells (grownCap w (xs.length + m) c e - (xs.length + m))) e (0, 0))).heap := by
      simp [World.alloc, wpush]
    refine ⟨_, _, _, _, hle, hb'.1.heap hh, (hb'.2.heap hh ⟨rfl, rfl, rfl⟩).heapl rfl ⟨rfl, rfl, rfl⟩, ?_, hr⟩
    exact den_slc.2 ⟨_, 0, _, Phi.set_self .., Cap.cap_mono hle hcap, by simp⟩

/-- An append, carried out. -/
theorem app_ok {t ty e : TypeId} {i : TypeInfo} {z : Value} {rx ry : Rd} {x y : Value} (ht : P.underlying t = some (.slice e)) (hi : P.info? e = some i) (hz : i.zero = some z) (hzs : z.cells.size = i.size)
    (hby : i.bytes ≠ 0) (hx : den φ (rx.ev env) = some x) (hy : den φ (ry.ev env) = some y) (hE : Emb W0 φ V h w) {K : VV → List VB → Prop} (hk : weff o (.app i.size i.bytes rx ry) env V K) :
    ∃ v x' V' φ' h' w', K v V' ∧ φ.le φ' ∧ Emb W0 φ' V' h' w' ∧ Fr h h' w w' ∧ den φ' v = some x' ∧ (Builtin.append_ #[t, t] ty #[x, y]).run P w = .ok x' w' := by
  simp only [weff] at hk
  split at hk
  · rename_i ys m hsrc
    obtain ⟨hm, hone, hk⟩ := hk
    rw [o.ll_eq] at hm
    rw [o.all1_eq] at hone
    obtain ⟨ad, c0, news, rfl, hnd, hnl, hyl, hnw⟩ := appSrc_ok hsrc hE hy hm
    have hn1 : ∀ u ∈ news, u.oneCell' = true := allOne_den hnd (allOne_flatten hone)
    have hnone : φ V.length = none := hE.dom _ (Nat.le_refl _)
    have hnum : ∀ C, φ.le (φ.set V.length (C, 0)) := fun C => Phi.le_set hnone
    split at hk
    · rename_i hev
      obtain ⟨⟨h1, h2⟩, hk⟩ := hk
      rw [o.nle_eq] at h1 h2
      rw [o.nmul_eq] at h2
      simp only [decide_eq_true_eq] at h1 h2
      rw [hev] at hx
      simp only [den, Option.some.injEq] at hx
      subst hx
      rcases hk with hk | hk
      · have hk' := hk (grownCap w m 0 e) (by rw [o.nle_eq]; exact decide_eq_true (grownCap_ge w m 0 e))
        rw [lapp_eq, o.nmul_eq, llen_eq] at hk'
        obtain ⟨x', φ', h', w', r⟩ := app_nil (ty := ty) (c0 := c0) ht hi hz hzs hby hE hnd hnl hyl hnw h1 h2 (.n (grownCap w m 0 e * i.size)) rfl (.n (grownCap w m 0 e)) rfl
        exact ⟨_, x', _, φ', h', w', hk', r⟩
      · have hk' := hk ()
        rw [lapp_eq, llen_eq] at hk'
        have he2 := hE.num (grownCap w m 0 e)
        have hn2 := hnum (grownCap w m 0 e)
        obtain ⟨x', φ', h', w', r1, r2, r3, r4, r5⟩ := app_nil (ty := ty) (c0 := c0) ht hi hz hzs hby he2 (denL_mono hn2 _ _ hnd) hnl hyl hnw h1 h2 (.v V.length) (by simp only [Cap.tot, Phi.set_self]; rfl) (.v V.length)
          (by simp only [Cap.cap, Phi.set_self]; rw [if_pos (by have := grownCap_ge w m 0 e; omega)]; rfl)
        refine ⟨_, x', _, φ', h', w', hk', Phi.le_trans hn2 r1, ?_, r3, ?_, r5⟩
        · rw [List.append_assoc] at r2; exact r2
        · rw [List.length_append] at r4; exact r4
    · rename_i id e1 n c hev
      split at hk
      · rename_i e2 xs tot hV
        split at hk
        · rename_i hbe1
          split at hk
          · rename_i hbe2
            have e1' := Nat.eq_of_beq_eq_true hbe1
            have e2' := Nat.eq_of_beq_eq_true hbe2
            subst e1'
            subst e2'
            obtain ⟨⟨h1, h2, h3⟩, hk⟩ := hk
            rw [o.ll_eq] at h1
            rw [o.nmul_eq] at h2
            rw [o.nle_eq, o.nmul_eq, o.nadd_eq] at h3
            simp only [decide_eq_true_eq] at h3
            subst h1
            subst h2
            rw [lget_eq] at hV
            rw [hev] at hx
            obtain ⟨b, st, hφ, rfl⟩ := den_sl.1 hx
            obtain ⟨b', l, rest, T, g1, g2, g3, g4, g5⟩ := hE.sat id _ hV
            rw [g1] at hφ; cases hφ
            have hlt : id < V.length := (List.getElem?_eq_some_iff.1 hV).1
            simp only [Nat.zero_mul, Nat.add_zero]
            rcases hk with hk | hk
            · have hk' := hk (newCap w xs.length m c e) (by rw [o.nle_eq, o.nadd_eq]; exact decide_eq_true newCap_ge)
              rw [lapp_eq, lset_eq, o.nmul_eq, o.cat_eq, o.nadd_eq, llen_eq] at hk'
              obtain ⟨x', φ', h', w', r⟩ := app_row (ty := ty) (c0 := c0) ht hi hz hzs hby hE hnd hnl hyl hnw hn1 hV g1 rfl h3 (.n (newCap w xs.length m c e * i.size)) rfl (.n (newCap w xs.length m c e)) rfl
              exact ⟨_, x', _, φ', h', w', hk', r⟩
            · have hk' := hk ()
              rw [lapp_eq, lset_eq, o.cat_eq, o.nadd_eq, llen_eq] at hk'
              have he2 := hE.num (newCap w xs.length m c e)
              have hn2 := hnum (newCap w xs.length m c e)
              obtain ⟨x', φ', h', w', r1, r2, r3, r4, r5⟩ := app_row (ty := ty) (c0 := c0) ht hi hz hzs hby he2 (denL_mono hn2 _ _ hnd) hnl hyl hnw hn1 (by rw [List.getElem?_append_left hlt]; exact hV) (hn2 _ _ g1) rfl h3 (.v V.length) (by simp only [Cap.tot, Phi.set_self]; rfl) (.v V.length)
                (by simp only [Cap.cap, Phi.set_self]; rw [if_pos (by have := @newCap_ge w xs.length m c e; omega)]; rfl)
              refine ⟨_, x', _, φ', h', w', hk', Phi.le_trans hn2 r1, ?_, r3, ?_, r5⟩
              · rw [List.set_append_left _ _ hlt, List.append_assoc] at r2; exact r2
              · rw [List.length_append] at r4; exact r4
          · exact hk.elim
        · exact hk.elim
      · exact hk.elim
    · rename_i id e1 n cid hev
      split at hk
      · rename_i e2 xs cid' hV
        split at hk
        · rename_i hbe1
          split at hk
          · rename_i hbe2
            split at hk
            · rename_i hbc
              have e1' := Nat.eq_of_beq_eq_true hbe1
              have e2' := Nat.eq_of_beq_eq_true hbe2
              have e3' := Nat.eq_of_beq_eq_true hbc
              subst e1'
              subst e2'
              subst e3'
              obtain ⟨⟨h1, h3⟩, hk'⟩ := hk
              rw [o.ll_eq] at h1
              rw [o.nle_eq, o.nmul_eq, o.nadd_eq] at h3
              simp only [decide_eq_true_eq] at h3
              subst h1
              rw [lget_eq] at hV
              rw [hev] at hx
              obtain ⟨b, st, c, hφ, hc, rfl⟩ := den_slc.1 hx
              obtain ⟨b', l, rest, T, g1, g2, g3, g4, g5⟩ := hE.sat id _ hV
              rw [g1] at hφ; cases hφ
              have hlt : id < V.length := (List.getElem?_eq_some_iff.1 hV).1
              have hct : (Cap.v cid).tot φ i.size = some (c * i.size) := by
                simp only [Cap.cap] at hc
                split at hc
                · rename_i p hp
                  split at hc
                  · cases hc; simp [Cap.tot, hp]
                  · cases hc
                · cases hc
              simp only [Nat.zero_mul, Nat.add_zero]
              rw [lapp_eq, lset_eq, o.cat_eq, o.nadd_eq, llen_eq] at hk'
              have he2 := hE.num (newCap w xs.length m c e)
              have hn2 := hnum (newCap w xs.length m c e)
              obtain ⟨x', φ', h', w', r1, r2, r3, r4, r5⟩ := app_row (ty := ty) (c0 := c0) ht hi hz hzs hby he2 (denL_mono hn2 _ _ hnd) hnl hyl hnw hn1 (by rw [List.getElem?_append_left hlt]; exact hV) (hn2 _ _ g1) (Cap.tot_mono hn2 hct) h3 (.v V.length) (by simp only [Cap.tot, Phi.set_self]; rfl) (.v V.length)
                (by simp only [Cap.cap, Phi.set_self]; rw [if_pos (by have := @newCap_ge w xs.length m c e; omega)]; rfl)
              refine ⟨_, x', _, φ', h', w', hk', Phi.le_trans hn2 r1, ?_, r3, ?_, r5⟩
              · rw [List.set_append_left _ _ hlt, List.append_assoc] at r2; exact r2
              · rw [List.length_append] at r4; exact r4
            · exact hk.elim
          · exact hk.elim
        · exact hk.elim
      · exact hk.elim
    · exact hk.elim
  · split at hk
    · rename_i hyv
      rw [hyv] at hy
      simp only [den, Option.some.injEq] at hy
      subst hy
      split at hk
      · rename_i hev
        rw [hev] at hx
        simp only [den, Option.some.injEq] at hx
        subst hx
        refine ⟨_, _, _, φ, h, w, hk, Phi.le_refl _, hE, Fr.refl _ _, rfl, ?_⟩
        simp [Builtin.append_, run_underlying ht, sizeOf, typeInfo, hi, Builtin.lenOf, Builtin.firstCells]
      · rename_i id e1 s1 n c hev
        obtain ⟨hle, hk⟩ := hk
        rw [o.nle_eq] at hle
        simp only [decide_eq_true_eq] at hle
        rw [hev] at hx
        obtain ⟨b, st, kc, hφ, hkc, rfl⟩ := den_slc.1 hx
        cases hkc
        refine ⟨_, _, _, φ, h, w, hk, Phi.le_refl _, hE, Fr.refl _ _, hx, ?_⟩
        simp [Builtin.append_, run_underlying ht, sizeOf, typeInfo, hi, Builtin.lenOf, Builtin.firstCells, hle, storeCells]
      · exact hk.elim
    · exact hk.elim

theorem run_copy_rows {t u ty e : TypeId} {n : Nat} (ht : P.underlying t = some (.slice e)) (hn : sizeB P e = some n) {g off dLen dCap sLen sCap : Nat} {a : Addr} {cur : Array Value} {T : TypeId} {cs : List Value}
    (hg : w.heap[g]? = some (.cells cur T (0, 0))) (hl : cs.length = Nat.min sLen dLen * n) (hsrc : ∀ j v, cs[j]? = some v → w.cell? (a.add j) = some v) (hfit : off + cs.length ≤ cur.size) (h1 : ∀ v ∈ cs, v.oneCell' = true) :
    (Builtin.copy_ #[t, u] ty #[.slice (some ⟨g, off, none⟩) dLen dCap, .slice (some a) sLen sCap]).run P w =
      .ok (goInt (Nat.min sLen dLen : Nat)) (w.setRow g (cur.toList.take off ++ cs ++ cur.toList.drop (off + cs.length)).toArray) := by
  have hload := run_loadCells_list (P := P) w a cs hsrc
  have hst := run_storeCells_at P g off T cs 0 cur w hg (by simpa using hfit) h1
  rw [hl] at hload
  simp [Builtin.copy_, run_underlying ht, Builtin.lenOf, Builtin.firstCells, run_sizeOf' hn, hload, hst]

/-- A copy, carried out. -/
theorem cp_ok {t u ty e : TypeId} {n : Nat} {rx ry : Rd} {x y : Value} (ht : P.underlying t = some (.slice e)) (hn : sizeB P e = some n)
    (hx : den φ (rx.ev env) = some x) (hy : den φ (ry.ev env) = some y) (hE : Emb W0 φ V h w) {K : VV → List VB → Prop} (hk : weff o (.cpy n rx ry) env V K) :
    ∃ v x' V' h' w', K v V' ∧ Emb W0 φ V' h' w' ∧ Fr h h' w w' ∧ den φ v = some x' ∧ (Builtin.copy_ #[t, u] ty #[x, y]).run P w = .ok x' w' := by
  simp only [weff] at hk
  split at hk
  · rename_i ys m hsrc
    split at hk
    · rename_i id e1 s nd c hev
      split at hk
      · rename_i e2 xs tot hV
        split at hk
        · rename_i hbe1
          split at hk
          · rename_i hbe2
            have e1' := Nat.eq_of_beq_eq_true hbe1
            have e2' := Nat.eq_of_beq_eq_true hbe2
            subst e1'
            subst e2'
            obtain ⟨⟨h1, h2, h3⟩, hk⟩ := hk
            rw [o.ll_eq] at h1 h3
            rw [o.all1_eq] at h2
            rw [o.nle_eq, o.nadd_eq] at h3
            simp only [decide_eq_true_eq] at h3
            obtain ⟨ad, c0, news, rfl, hnd, hnl, hyl, hnw⟩ := appSrc_ok hsrc hE hy h1
            rw [lget_eq] at hV
            rw [hev] at hx
            obtain ⟨b, st, kc, hφ, hkc, rfl⟩ := den_slc.1 hx
            obtain ⟨b', l, rest, T, g1, g2, g3, g4, g5⟩ := hE.sat id _ hV
            rw [g1] at hφ; cases hφ
            rw [o.nmn_eq, o.ovl_eq, lset_eq] at hk
            generalize hkk : Nat.min m nd = k at hk
            have hk1 : k ≤ m := by rw [← hkk]; exact Nat.min_le_left ..
            have hk2 : k ≤ nd := by rw [← hkk]; exact Nat.min_le_right ..
            have hll : l.length = xs.length * e2 := by rw [denL_length g2, flatten_len g5]
            have hb := (hE.sub id b _ g3).2
            have hlt : id < V.length := (List.getElem?_eq_some_iff.1 hV).1
            have hmul : (s + k) * e2 ≤ xs.length * e2 := Nat.mul_le_mul_right _ (by omega)
            have hmul2 : k * e2 ≤ m * e2 := Nat.mul_le_mul_right _ hk1
            have hadd : s * e2 + k * e2 = (s + k) * e2 := by rw [Nat.add_mul]
            have hcs : (news.take (k * e2)).length = k * e2 := by rw [List.length_take, hnl]; exact Nat.min_eq_left hmul2
            have hone : ∀ v ∈ news.take (k * e2), v.oneCell' = true := fun v hv => allOne_den hnd (allOne_flatten h2) v (List.mem_of_mem_take hv)
            have hr := run_copy_rows (P := P) (w := w) (ty := ty) (u := u) ht hn (dLen := nd) (dCap := kc) (sLen := m) (sCap := c0) (a := ad) hb (cs := news.take (k * e2)) (off := s * e2) (by rw [hcs, hkk]) (by
                intro j v hj
                rw [List.getElem?_take] at hj
                split at hj
                · exact hnw j v hj
                · cases hj) (by simp only [List.size_toArray, List.length_append, hcs]; rw [hadd, hll]; omega) hone
            have hden : denL φ (ovlF xs s ys k).flatten = some (l.take (s * e2) ++ news.take (k * e2) ++ l.drop ((s + k) * e2)) := by
              unfold ovlF
              rw [List.flatten_append, List.flatten_append, flatten_take g5, flatten_take hyl, flatten_drop g5]
              exact denL_append.2 ⟨_, _, denL_append.2 ⟨_, _, denL_take _ g2, denL_take _ hnd, rfl⟩, denL_drop _ g2, rfl⟩
            have hrow : (l ++ rest).toArray.toList.take (s * e2) ++ news.take (k * e2) ++ (l ++ rest).toArray.toList.drop (s * e2 + (news.take (k * e2)).length) = (l.take (s * e2) ++ news.take (k * e2) ++ l.drop ((s + k) * e2)) ++ rest := by
              simp only []
              rw [hcs, hadd, List.take_append_of_le_length (by omega), List.drop_append_of_le_length (by omega)]
              simp only [List.append_assoc]
            rw [hrow] at hr
            have hlen2 : (l.take (s * e2) ++ news.take (k * e2) ++ l.drop ((s + k) * e2)).length = l.length := by
              simp only [List.length_append, hcs, List.length_take, List.length_drop]; omega
            have hu := hE.upd (new := ((l.take (s * e2) ++ news.take (k * e2) ++ l.drop ((s + k) * e2)) ++ rest).toArray) (vb' := .arr e2 (ovlF xs s ys k) tot) hlt g3
              ⟨b, _, rest, T, g1, hden, by exact if_pos rfl, by rw [List.length_append, hlen2, ← List.length_append]; exact g4, by
                intro z hz
                unfold ovlF at hz
                rcases List.mem_append.1 hz with hz | hz
                · rcases List.mem_append.1 hz with hz | hz
                  · exact g5 z (List.mem_of_mem_take hz)
                  · exact hyl z (List.mem_of_mem_take hz)
                · exact g5 z (List.mem_of_mem_drop hz)⟩
            refine ⟨_, _, _, _, _, hk, hu.1, hu.2, rfl, ?_⟩
            simp only [Nat.zero_add]
            rw [hr, hkk]
            rfl
          · exact hk.elim
        · exact hk.elim
      · exact hk.elim
    · exact hk.elim
  · exact hk.elim

theorem weff_ok {op : Oper} {i : I} (hc : compOp P cand N op = some i) (hr : ∀ x ∈ op.op.operands, RdR φ N env a x) (hE : Emb W0 φ V h w) {K : VV → List VB → Prop} (hk : weff o i env V K) :
    Does P W0 φ h w K ((execOp a.eval op).run P w) := by
  have none_of : (match i with | .app .. => false | .clen _ => false | .mlen _ => false | .cpy .. => false | .mlk .. => false | .mup .. => false | .mdl .. => false | .st .. => false | .call .. => false | .callv .. => false | .inv .. => false | _ => true) = true → False := by
    intro hne
    cases i <;> simp [weff] at hk hne
  obtain ⟨dst, op, ty, pos, after, gd⟩ := op
  cases op <;> simp only [compOp] at hc <;> simp only [Op.operands] at hr
  case store t x y =>
    split at hc
    · rename_i n rx ry hn hx hy
      cases hc
      obtain ⟨V', h', w', k1, k2, k3, k4⟩ := st_ok (dst := dst) (ty := ty) (pos := pos) (after := after) (gd := gd) hn ((hr x (by simp)).get hx) ((hr y (by simp)).get hy) hE hk
      rw [k4]
      exact .skip V' φ h' k1 (Phi.le_refl _) k2 k3
    · cases hc
  case lookup t x k cok =>
    split at hc
    · rename_i rx rk hx hkk
      obtain ⟨kt, et, pr, hu, hp, h2⟩ := mapI_is hc
      obtain ⟨z, hz, rfl⟩ := mlkI_is h2
      have d1 := (hr x (by simp)).get hx
      have d2 := (hr k (by simp)).get hkk
      simp only [weff] at hk
      split at hk
      · rename_i hko
        split at hk
        · rename_i hev
          rw [hev] at d1
          simp only [den, Option.some.injEq] at d1
          obtain ⟨u, du, hrun⟩ := lookup_nil (w := w) hu hp hz hko d2 cok
          have hrun' : (execOp a.eval ⟨dst, .lookup t x k cok, ty, pos, after, gd⟩).run P w = .ok (.value u) w := by
            simp only [execOp, ← d1, Sem.run_bind, hrun, Result.andThen_ok, Sem.run_pure]
          rw [hrun']
          cases cok
          · exact .value _ V φ h hk (Phi.le_refl _) hE (Fr.refl _ _) du
          · exact .value _ V φ h hk (Phi.le_refl _) hE (Fr.refl _ _) du
        · rename_i id hev
          rw [hev] at d1
          simp only [den, Option.map_eq_some_iff] at d1
          obtain ⟨p, hφ, d1⟩ := d1
          split at hk
          · rename_i ks vs hV
            obtain ⟨hall, hk⟩ := hk
            rw [o.kall_eq] at hall
            rw [lget_eq] at hV
            obtain ⟨b, l, m, es, clock, g1, g2, g3, g4, g5, g6⟩ := hE.sat id _ hV
            rw [hφ] at g1; cases g1
            have hw := (hE.sub id b _ g4).2
            subst g5; subst g6
            obtain ⟨u, du, hrun⟩ := lookup_run (w := w) hu hp hz hko d2 hw g2 g3 hall cok
            have hrun' : (execOp a.eval ⟨dst, .lookup t x k cok, ty, pos, after, gd⟩).run P w = .ok (.value u) w := by
              simp only [execOp, ← d1, Sem.run_bind, hrun, Result.andThen_ok, Sem.run_pure]
            rw [hrun']
            rw [o.mval_eq] at hk
            cases hm : mvalF ks vs (rk.ev env) with
            | none =>
              rw [hm] at hk du
              cases cok
              · exact .value _ V φ h hk (Phi.le_refl _) hE (Fr.refl _ _) du
              · exact .value _ V φ h hk (Phi.le_refl _) hE (Fr.refl _ _) du
            | some v =>
              rw [hm] at hk du
              cases cok
              · exact .value _ V φ h hk (Phi.le_refl _) hE (Fr.refl _ _) du
              · exact .value _ V φ h hk (Phi.le_refl _) hE (Fr.refl _ _) du
          · exact hk.elim
        · exact hk.elim
      · exact hk.elim
    · cases hc
  case mapUpdate t x k v | insert t x k v =>
    split at hc
    · rename_i rx rk rv hx hkk hvv
      obtain ⟨kt, et, pr, hu, hp, h2⟩ := mapI_is hc
      simp only [mupI] at h2
      cases h2
      have d1 := (hr x (by simp)).get hx
      have d2 := (hr k (by simp)).get hkk
      have d3 := (hr v (by simp)).get hvv
      simp only [weff] at hk
      split at hk
      · rename_i hko
        split at hk
        · split at hk
          · rename_i id hev
            rw [hev] at d1
            simp only [den, Option.map_eq_some_iff] at d1
            obtain ⟨p, hφ, d1⟩ := d1
            split at hk
            · rename_i ks vs hV
              obtain ⟨hall, hk⟩ := hk
              rw [o.kall_eq] at hall
              rw [lget_eq] at hV
              obtain ⟨b, l, m, es, clock, g1, g2, g3, g4, g5, g6⟩ := hE.sat id _ hV
              rw [hφ] at g1; cases g1
              have hw := (hE.sub id b _ g4).2
              subst g5; subst g6
              obtain ⟨es', clock', hrun, k1, k2⟩ := update_run (w := w) hu hp hko d2 d3 hw g2 g3 hall
              rw [o.mks_eq, o.mvs_eq, lset_eq] at hk
              have hob := hE.obj (vb' := .map (mksF ks (rk.ev env)) (mvsF ks vs (rk.ev env) (rv.ev env))) (new := .map es' clock') (w' := { w with heap := w.heap.setIfInBounds b (.map es' clock') }) (List.getElem?_eq_some_iff.1 hV).1 g4
                ⟨b, _, _, es', clock', hφ, k1, k2, by simp, rfl, rfl⟩ rfl ⟨rfl, rfl, rfl⟩
              first
              | (have hrun' : (execOp a.eval ⟨dst, .mapUpdate t x k v, ty, pos, after, gd⟩).run P w = .ok .skip { w with heap := w.heap.setIfInBounds b (.map es' clock') } := by
                   simp only [execOp, ← d1, Sem.run_bind, hrun, Result.andThen_ok, Sem.run_pure]
                 rw [hrun'])
              | (have hrun' : (execOp a.eval ⟨dst, .insert t x k v, ty, pos, after, gd⟩).run P w = .ok .skip { w with heap := w.heap.setIfInBounds b (.map es' clock') } := by
                   simp only [execOp, ← d1, Sem.run_bind, hrun, Result.andThen_ok, Sem.run_pure]
                 rw [hrun'])
              exact .skip _ φ _ hk (Phi.le_refl _) hob.1 hob.2
            · exact hk.elim
          · exact hk.elim
        · exact hk.elim
      · exact hk.elim
    · cases hc
  case call c =>
    split at hc
    · cases hc
    · rename_i args hargs
      have hops : ∀ x ∈ c.args.toList, RdR φ N env a x := fun x hx => hr x (by simp only [Call.operands, Array.mem_append]; exact .inr (by simpa using hx))
      have dargs := rds_den hargs hops
      have harr : (c.args.toList.map a.eval).toArray = c.args.map a.eval := by rw [← Array.toList_map, Array.toArray_toList]
      split at hc
      · rename_i f hcal
        cases hc
        simp only [weff, o.ev_eq] at hk
        have hrun : (execOp a.eval ⟨dst, .call c, ty, pos, after, gd⟩).run P w = .ok (.enter f (c.args.toList.map a.eval).toArray) w := by
          simp only [execOp, resolve, hcal, Sem.run_bind, Act.eval, Deferred.ofValue, Sem.run_pure, Result.andThen_ok, invoke, callFunc_run hk.1]
          rw [harr]; simp
        rw [hrun]
        exact .enter V _ hk hE dargs
      · rename_i t hcal
        simp only [Option.map_eq_some_iff] at hc
        obtain ⟨rx, hx, rfl⟩ := hc
        simp only [weff, o.ev_eq] at hk
        have d1 := (hr (.tmp t) (by simp [Call.operands, hcal])).get hx
        split at hk
        · rename_i f first cap hev
          rw [hev] at d1
          obtain ⟨l, m, h1, h2, h3⟩ := den_fn.1 d1
          have hrun : (execOp a.eval ⟨dst, .call c, ty, pos, after, gd⟩).run P w = .ok (.enter f (l ++ (c.args.toList.map a.eval ++ m)).toArray) w := by
            simp only [execOp, resolve, hcal, Sem.run_bind, h3, Deferred.ofValue, Sem.run_pure, Result.andThen_ok, invoke, callFunc_run hk.1]
            congr 2
            apply Array.toList_inj.1
            simp
          rw [hrun]
          rw [lapp_eq, lapp_eq] at hk
          exact .enter V _ hk hE (denL_append.2 ⟨_, _, h1, denL_append.2 ⟨_, _, dargs, h2, rfl⟩, rfl⟩)
        · exact hk.elim
      · rename_i r name hcal
        simp only [Option.map_eq_some_iff] at hc
        obtain ⟨rx, hx, rfl⟩ := hc
        simp only [weff, o.ev_eq] at hk
        have d1 := (hr r (by simp [Call.operands, hcal])).get hx
        split at hk
        · rename_i t v hev
          rw [hev] at d1
          obtain ⟨y, h1, h2⟩ := den_iface.1 d1
          split at hk
          · rename_i t1 f hfind
            have hm := List.mem_of_find?_eq_some hfind
            have hb := List.find?_some hfind
            have htt : t1 = t := Nat.eq_of_beq_eq_true hb
            subst htt
            simp only [List.mem_filterMap] at hm
            obtain ⟨t2, _, hm2⟩ := hm
            unfold methodB at hm2
            split at hm2
            · rename_i inf e hinf hund
              split at hm2
              · rename_i m hmeth
                split at hm2
                · rename_i f' hpath hfun
                  cases hm2
                  have hmet : ∀ (fuel : Nat), (method (fuel + 1) t1 y name).run P w = .ok (f, y) w := by
                    intro fuel
                    simp [method, run_typeInfo' hinf, hmeth, hpath, follow, hfun, receiverAt, run_underlying hund, Place.get]
                  have hrun : (execOp a.eval ⟨dst, .call c, ty, pos, after, gd⟩).run P w = .ok (.enter f (y :: c.args.toList.map a.eval).toArray) w := by
                    simp only [execOp, resolve, hcal, Sem.run_bind, h2, Sem.run_pure, Result.andThen_ok, invoke]
                    have e0 : (#[Value.iface t1 y] ++ c.args.map a.eval)[0]? = some (.iface t1 y) := by
                      rw [Array.getElem?_append_left (by simp)]; rfl
                    simp only [e0, callMethod, Sem.run_bind, run_program, Result.andThen_ok]
                    rw [show P.types.size + Made.depth = (P.types.size + (Made.depth - 1)) + 1 from rfl, hmet]
                    simp only [Result.andThen_ok, callFunc_run hk.1]
                    rw [tail_args, ← harr]
                    congr 2
                    apply Array.toList_inj.1
                    simp
                  rw [hrun]
                  exact .enter V _ hk hE (denL_cons.2 ⟨_, _, h1, dargs, rfl⟩)
                · cases hm2
              · cases hm2
            · cases hm2
          · exact hk.elim
        · exact hk.elim
      all_goals (repeat' split at hc)
      all_goals first
        | (cases hc; done)
        | (exfalso; apply none_of; cases hc; rfl)
        | skip
      · rename_i _ _ hcal _ _ rx t ht0 _ _ _ hu
        cases hc
        obtain ⟨x', l1, hx', hl1, he1⟩ := denL_cons.1 dargs
        simp only [evs, denL, Option.some.injEq] at hl1
        subst hl1
        have hmap : c.args.map a.eval = #[x'] := by rw [← harr, he1]
        have hty : c.argTypes[0]? = some t := ht0
        simp only [weff] at hk
        have fin : ∀ (m : Nat) (z : Int), K (.int .i64 z) V → z = m → (Builtin.len_ c.argTypes ty #[x']).run P w = .ok (goInt m) w →
            Does P W0 φ h w K ((execOp a.eval ⟨dst, .call c, ty, pos, after, gd⟩).run P w) := by
          intro m z h1 h2 h3
          have hrun : (execOp a.eval ⟨dst, .call c, ty, pos, after, gd⟩).run P w = .ok (.value (goInt m)) w := by
            simp only [execOp, resolve, hcal, hmap, Sem.run_bind, Sem.run_pure, Result.andThen_ok, invoke, builtin, h3]
          rw [hrun]
          exact .value _ V φ h h1 (Phi.le_refl _) hE (Fr.refl _ _) (by rw [h2]; rfl)
        split at hk
        · rename_i id hev
          rw [hev] at hx'
          simp only [den, Option.map_eq_some_iff] at hx'
          obtain ⟨p, hp, rfl⟩ := hx'
          split at hk
          · rename_i cap xs hV
            rw [lget_eq] at hV
            obtain ⟨b, l, s, r, h1, h2, h3⟩ := hE.sat id _ hV
            rw [hp] at h1
            cases h1
            have hw := (hE.sub id b _ h3).2
            have hl := denL_length h2
            refine fin xs.length _ hk (by rw [o.len_eq]; rfl) ?_
            have hg : (getObj b).run P w = .ok (.chan cap l.toArray false s r false) w := by simp [getObj, Sem.run, hw]
            simp only [Builtin.len_, hty]
            simp [run_underlying hu, hg, hl]
          · exact hk.elim
        · rename_i hev
          rw [hev] at hx'
          simp only [den, Option.some.injEq] at hx'
          subst hx'
          refine fin 0 _ hk rfl ?_
          simp only [Builtin.len_, hty]
          simp [run_underlying hu]
        · exact hk.elim
      · rename_i _ _ hcal _ _ rx t ht0 _ _ _ hu
        cases hc
        obtain ⟨x', l1, hx', hl1, he1⟩ := denL_cons.1 dargs
        simp only [evs, denL, Option.some.injEq] at hl1
        subst hl1
        have hmap : c.args.map a.eval = #[x'] := by rw [← harr, he1]
        have hty : c.argTypes[0]? = some t := ht0
        simp only [weff] at hk
        have fin : ∀ (m : Nat) (z : Int), K (.int .i64 z) V → z = m → (Builtin.len_ c.argTypes ty #[x']).run P w = .ok (goInt m) w →
            Does P W0 φ h w K ((execOp a.eval ⟨dst, .call c, ty, pos, after, gd⟩).run P w) := by
          intro m z h1 h2 h3
          have hrun : (execOp a.eval ⟨dst, .call c, ty, pos, after, gd⟩).run P w = .ok (.value (goInt m)) w := by
            simp only [execOp, resolve, hcal, hmap, Sem.run_bind, Sem.run_pure, Result.andThen_ok, invoke, builtin, h3]
          rw [hrun]
          exact .value _ V φ h h1 (Phi.le_refl _) hE (Fr.refl _ _) (by rw [h2]; rfl)
        split at hk
        · rename_i id hev
          rw [hev] at hx'
          simp only [den, Option.map_eq_some_iff] at hx'
          obtain ⟨p, hp, rfl⟩ := hx'
          split at hk
          · rename_i ks vs hV
            rw [lget_eq] at hV
            obtain ⟨b, l, m, es, clock, h1, h2, h3, h4, h5, h6⟩ := hE.sat id _ hV
            rw [hp] at h1
            cases h1
            have hw := (hE.sub id b _ h4).2
            have hl := denL_length h2
            subst h5
            rw [List.length_map] at hl
            refine fin ks.length _ hk (by rw [o.len_eq]; rfl) ?_
            simp only [Builtin.len_, hty]
            simp [run_underlying hu, Go.MapKept.run_getObj_map hw, ← hl]
          · exact hk.elim
        · rename_i hev
          rw [hev] at hx'
          simp only [den, Option.some.injEq] at hx'
          subst hx'
          refine fin 0 _ hk rfl ?_
          simp only [Builtin.len_, hty]
          simp [run_underlying hu]
        · exact hk.elim
      · rename_i _ _ hcal _ _ _ rx ry t u ht0 ht1 _ _ e e' hu hu' _ n hn hcond
        cases hc
        obtain ⟨x', l1, hx', hl1, he1⟩ := denL_cons.1 dargs
        obtain ⟨y', l2, hy', hl2, he2⟩ := denL_cons.1 hl1
        simp only [evs, denL, Option.some.injEq] at hl2
        subst hl2
        subst he2
        have hmap : c.args.map a.eval = #[x', y'] := by rw [← harr, he1]
        have hct : Builtin.copy_ c.argTypes ty #[x', y'] = Builtin.copy_ #[t, u] ty #[x', y'] := by simp only [Builtin.copy_, ht0]; rfl
        obtain ⟨v, xv, V', h', w', k1, k2, k3, k4, k5⟩ := cp_ok (ty := ty) (u := u) hu hn hx' hy' hE hk
        have hrun : (execOp a.eval ⟨dst, .call c, ty, pos, after, gd⟩).run P w = .ok (.value xv) w' := by
          simp only [execOp, resolve, hcal, hmap, Sem.run_bind, Sem.run_pure, Result.andThen_ok, invoke, builtin, hct, k5]
        rw [hrun]
        exact .value v V' φ h' k1 (Phi.le_refl _) k2 k3 k4
      · rename_i _ _ hcal _ _ rx rk t ht0
        obtain ⟨kt, et, pr, hu, hp, h2⟩ := mapI_is hc
        simp only [mdlI] at h2
        cases h2
        obtain ⟨x', l1, hx', hl1, he1⟩ := denL_cons.1 dargs
        obtain ⟨k', l2, hk', hl2, he2⟩ := denL_cons.1 hl1
        simp only [evs, denL, Option.some.injEq] at hl2
        subst hl2
        subst he2
        have hmap : c.args.map a.eval = #[x', k'] := by rw [← harr, he1]
        simp only [weff] at hk
        have run : ∀ {w' : World}, (Builtin.delete_ c.argTypes ty #[x', k']).run P w = .ok (.tuple #[]) w' → (execOp a.eval ⟨dst, .call c, ty, pos, after, gd⟩).run P w = .ok (.value (.tuple #[])) w' := by
          intro w' h3
          simp only [execOp, resolve, hcal, hmap, Sem.run_bind, Sem.run_pure, Result.andThen_ok, invoke, builtin, h3]
        split at hk
        · rename_i hko
          split at hk
          · rename_i hev
            rw [hev] at hx'
            simp only [den, Option.some.injEq] at hx'
            subst hx'
            rw [run (delete_nil ht0 hu hp hko hk')]
            exact .value vundef V φ h hk (Phi.le_refl _) hE (Fr.refl _ _) rfl
          · rename_i id hev
            rw [hev] at hx'
            simp only [den, Option.map_eq_some_iff] at hx'
            obtain ⟨p, hφ, rfl⟩ := hx'
            split at hk
            · rename_i ks vs hV
              obtain ⟨hall, hk⟩ := hk
              rw [o.kall_eq] at hall
              rw [lget_eq] at hV
              obtain ⟨b, l, m, es, clock, g1, g2, g3, g4, g5, g6⟩ := hE.sat id _ hV
              rw [hφ] at g1; cases g1
              have hw := (hE.sub id b _ g4).2
              subst g5; subst g6
              obtain ⟨es', clock', hrun, k1, k2⟩ := delete_run (w := w) (ty := ty) ht0 hu hp hko hk' hw g2 g3 hall
              rw [o.dks_eq, o.dvs_eq, lset_eq] at hk
              have hob := hE.obj (vb' := .map (dksF ks (rk.ev env)) (dvsF ks vs (rk.ev env))) (new := .map es' clock') (w' := { w with heap := w.heap.setIfInBounds b (.map es' clock') }) (List.getElem?_eq_some_iff.1 hV).1 g4
                ⟨b, _, _, es', clock', hφ, k1, k2, by simp, rfl, rfl⟩ rfl ⟨rfl, rfl, rfl⟩
              rw [run hrun]
              exact .value vundef _ φ _ hk (Phi.le_refl _) hob.1 hob.2 rfl
            · exact hk.elim
          · exact hk.elim
        · exact hk.elim
      rename_i _ _ hcal _ _ _ rx ry t u ht0 ht1 _ _ e e' hu hu' _ inf hinf hcond
      cases hc
      obtain ⟨rfl, rfl, _, hby, hzz⟩ := hcond
      simp only [Option.map_eq_some_iff, decide_eq_true_eq] at hzz
      obtain ⟨z, hz, hzs⟩ := hzz
      obtain ⟨x', l1, hx', hl1, he1⟩ := denL_cons.1 dargs
      obtain ⟨y', l2, hy', hl2, he2⟩ := denL_cons.1 hl1
      simp only [evs, denL, Option.some.injEq] at hl2
      subst hl2
      subst he2
      have hmap : c.args.map a.eval = #[x', y'] := by rw [← harr, he1]
      obtain ⟨v, xv, V', φ', h', w', k1, k2, k3, k4, k5, k6⟩ := app_ok (ty := ty) hu hinf hz hzs hby hx' hy' hE hk
      have hrun : (execOp a.eval ⟨dst, .call c, ty, pos, after, gd⟩).run P w = .ok (.value xv) w' := by
        simp only [execOp, resolve, hcal, hmap, Sem.run_bind, Sem.run_pure, Result.andThen_ok, invoke, builtin]
        rw [append_types ht0 ht1, k6]
        rfl
      rw [hrun]
      exact .value v V' φ' h' k1 k2 k3 k4 k5
  all_goals
    exfalso
    apply none_of
    first
      | (simp only [Option.map_eq_some_iff] at hc; obtain ⟨_, _, rfl⟩ := hc; rfl)
      | (repeat' split at hc
         all_goals first | (cases hc; done) | (cases hc; rfl) | (simp only [Option.map_eq_some_iff] at hc; obtain ⟨_, _, rfl⟩ := hc; rfl) | (simp only [eqI] at hc; split at hc <;> cases hc <;> rfl) | (obtain ⟨_, _, rfl⟩ := eqsI_is hc; rfl) | (obtain ⟨_, _, _, _, _, h2⟩ := mapI_is hc; first | (obtain ⟨_, _, rfl⟩ := mlkI_is h2; rfl) | (simp only [mupI] at h2; cases h2; rfl) | (simp only [mdlI] at h2; cases h2; rfl)))

theorem wop_does {op : Oper} {i : I} (hc : compOp P cand N op = some i) (hr : ∀ x ∈ op.op.operands, RdR φ N env a x) (hE : Emb W0 φ V h w) {K : VV → List VB → Prop} (hk : wop o i env V K) :
    Does P W0 φ h w K ((execOp a.eval op).run P w) := by
  unfold wop at hk
  split at hk
  · rename_i v hv
    obtain ⟨x, hx, hrun⟩ := pval_ok hc hr hv (.inl rfl)
    rw [hrun]
    exact .value v V φ h hk (Phi.le_refl _) hE (Fr.refl _ _) hx
  · rename_i v b hv
    obtain ⟨x, hx, hrun⟩ := pval_ok hc hr hv (.inr (by rw [hk.1]))
    rw [hrun]
    exact .value v V φ h hk.2 (Phi.le_refl _) hE (Fr.refl _ _) hx
  · split at hk
    · rename_i v hv
      obtain ⟨b, off, l, x, hx, hw, hrun⟩ := lval_pin hc hr hv hE
      rw [hrun w hw]
      exact .value v V φ h hk (Phi.le_refl _) hE (Fr.refl _ _) hx
    · have hn : φ (llen V) = none := hE.dom _ (by rw [llen_eq]; exact Nat.le_refl _)
      have fin : ∀ (vb : VB) (v : VV) (c : Option Bool), fresh o i env (llen V) = some (vb, v, c) → (c = none ∨ c = some true) → K v (lapp V [vb]) → Does P W0 φ h w K ((execOp a.eval op).run P w) := by
        intro vb v c hv hb hk
        obtain ⟨ob, x, hrun, hx, hok⟩ := fresh_ok hc hr hv hb hn w
        obtain ⟨b1, b2⟩ := born_last (V := V) (vb := vb) (llen V) (llen_eq V)
        have := hE.born (V' := V ++ [vb]) hn (by simp) b1 b2 hok
        rw [hrun]
        rw [lapp_eq] at hk
        exact .value v _ _ _ hk (Phi.le_set hn) this.1 this.2 hx
      split at hk
      · rename_i vb v hv
        exact fin vb v none hv (.inl rfl) hk
      · rename_i vb v b hv
        exact fin vb v (some b) hv (.inr (by rw [hk.1])) hk.2
      · exact weff_ok hc hr hE hk
end
end Go.SL
