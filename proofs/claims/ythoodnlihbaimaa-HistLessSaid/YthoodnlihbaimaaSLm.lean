/- A symbolic executor over the model: regions that draw their order, joined; a call from its body. -/
import Derived.Test.YthoodnlihbaimaaSLl
namespace Go.SL
section
variable {P : Program} {W0 : World} {RE : (Env → List VB → Prop) → Env → List VB → Prop} {o : Ops (Ev P W0) RE} {cand : List TypeId} {N : Nat}

/-- The small operation of an operation. -/
structure OpIO (P : Program) (cand : List TypeId) (N : Nat) (all : Array Oper) (op : Oper) (io : IOp) : Prop where
  cmp : compOp P cand N op = some io.op
  dst : io.dst = op.dst
  dstN : dstB N op.dst = true
  gd : (op.guard = none ∧ io.guard = none) ∨ ∃ j want d, op.guard = some (j, want) ∧ (all[j]?).bind (·.dst) = some d ∧ d < N ∧ io.guard = some (d, want)
  after : io.after = (op.after.toList.filter bindsB).map (·.on)

theorem compOps_get {all : Array Oper} : ∀ {l : List Oper} {r : List IOp}, compOps P cand N all l = some r → r.length = l.length ∧ ∀ (k : Nat) (op : Oper), l[k]? = some op → ∃ io, r[k]? = some io ∧ OpIO P cand N all op io
  | [], r, hc => by simp [compOps] at hc; subst hc; exact ⟨rfl, fun k op h => by simp at h⟩
  | op :: l, r, hc => by
    simp only [compOps] at hc
    split at hc
    · rename_i i s hi hs
      obtain ⟨ih1, ih2⟩ := compOps_get hs
      split at hc
      · rename_i hdst
        split at hc
        · rename_i hg
          cases hc
          refine ⟨by simp [ih1], fun k op' hk => ?_⟩
          cases k with
          | zero => simp at hk; subst hk; exact ⟨_, rfl, ⟨hi, rfl, hdst, .inl ⟨hg, rfl⟩, rfl⟩⟩
          | succ k => simpa using ih2 k op' (by simpa using hk)
        · rename_i j want hg
          split at hc
          · rename_i d hd
            split at hc
            · rename_i hdN
              cases hc
              refine ⟨by simp [ih1], fun k op' hk => ?_⟩
              cases k with
              | zero => simp at hk; subst hk; exact ⟨_, rfl, ⟨hi, rfl, hdst, .inr ⟨j, want, d, hg, hd, hdN, rfl⟩, rfl⟩⟩
              | succ k => simpa using ih2 k op' (by simpa using hk)
            · cases hc
          · cases hc
      · cases hc
    · cases hc

theorem mem_number : ∀ {l : List IOp} {n : Nat} {s : DS}, s ∈ number l n → n ≤ s.j ∧ l[s.j - n]? = some s.io
  | [], n, s, h => by simp [number] at h
  | i :: l, n, s, h => by
    simp only [number, List.mem_cons] at h
    rcases h with h | h
    · subst h; simp
    · obtain ⟨h1, h2⟩ := mem_number h
      refine ⟨by omega, ?_⟩
      have : s.j - n = (s.j - (n + 1)) + 1 := by omega
      rw [this]; simpa using h2

theorem mem_markF {ms : List Nat} {all : List DS} : ∀ {l : List DS} {mk : List Nat} {s : DS}, s ∈ markF ms all l mk → ∃ s0 ∈ l, s0.j = s.j ∧ s0.io = s.io
  | [], _, _, h => by simp [markF] at h
  | t :: l, mk, s, h => by
    simp only [markF] at h
    split at h
    all_goals
      rcases List.mem_cons.1 h with h | h
      · subst h; exact ⟨_, List.mem_cons_self, rfl, rfl⟩
      · obtain ⟨s0, h1, h2⟩ := mem_markF h; exact ⟨s0, List.mem_cons_of_mem _ h1, h2⟩
theorem mem_sched {ms : List Nat} : ∀ {fuel : Nat} {todo : List DS} {s : DS}, s ∈ sched ms fuel todo → s ∈ todo
  | 0, _, _, h => by simp [sched] at h
  | fuel + 1, todo, s, h => by
    have go : ∀ {x : DS}, x ∈ todo → s ∈ x :: sched ms fuel (todo.filter fun t => t.j != x.j) → s ∈ todo := by
      intro x hx h
      rcases List.mem_cons.1 h with h | h
      · subst h; exact hx
      · exact (List.mem_filter.1 (mem_sched h)).1
    simp only [sched] at h
    split at h
    · rename_i x hx; exact go (List.mem_of_find?_eq_some hx) h
    · split at h
      · rename_i x hx; exact go (List.mem_of_find?_eq_some hx) h
      · split at h
        · rename_i x hx; exact go (List.mem_of_find?_eq_some hx) h
        · cases h

section
variable {ops : Array Oper}

theorem hasNat_mem {l : List Nat} {x : Nat} : hasNat l x = true ↔ x ∈ l := by rw [hasNat_eq, List.contains_iff_mem]
theorem anyNat_iff {js : List Nat} : ∀ {l : List Nat}, anyNat js l = true ↔ ∃ p ∈ l, p ∈ js
  | [] => by simp [anyNat]
  | p :: l => by
    simp only [anyNat]
    cases hb : hasNat js p with
    | true => simp only [true_iff]; exact ⟨p, List.mem_cons_self, hasNat_mem.1 hb⟩
    | false =>
      have hn : p ∉ js := fun h => by rw [hasNat_mem.2 h] at hb; cases hb
      simp only [anyNat_iff, List.mem_cons]
      constructor
      · rintro ⟨q, h1, h2⟩; exact ⟨q, .inr h1, h2⟩
      · rintro ⟨q, h1 | h1, h2⟩
        · subst h1; exact absurd h2 hn
        · exact ⟨q, h1, h2⟩
theorem mem_jsOf {j : Nat} : ∀ {l : List DS}, j ∈ jsOf l ↔ ∃ s ∈ l, s.j = j
  | [] => by simp [jsOf]
  | s :: l => by
    simp only [jsOf, List.mem_cons, mem_jsOf]
    constructor
    · rintro (h | ⟨x, h1, h2⟩)
      · exact ⟨s, .inl rfl, h.symm⟩
      · exact ⟨x, .inr h1, h2⟩
    · rintro ⟨x, h1 | h1, h2⟩
      · subst h1; exact .inl h2.symm
      · exact .inr ⟨x, h1, h2⟩

theorem getD_tf {listed : Array Bool} {i : Nat} (h : i < listed.size) : listed.getD i false = listed.getD i true := by simp [h]
theorem getD_true_iff {listed : Array Bool} {i : Nat} : listed.getD i true = true ↔ ¬ listed.getD i true = false := by simp

theorem waits_eq {i j : Nat} {op : Oper} {io : IOp} (hop : ops[i]? = some op) (h : OpIO P cand N ops op io) : waits ops i j = io.after.contains j := by
  unfold waits
  rw [hop, h.after]
  simp only [Option.map_some, Option.getD_some]
  rw [Bool.eq_iff_iff, Array.any_eq_true, List.contains_iff_mem, List.mem_map]
  constructor
  · rintro ⟨k, hk, hb⟩
    simp only [Bool.and_eq_true, beq_iff_eq] at hb
    exact ⟨op.after[k], List.mem_filter.2 ⟨by simp [Array.getElem_mem hk], hb.1⟩, hb.2⟩
  · rintro ⟨e, he, hon⟩
    obtain ⟨h1, h2⟩ := List.mem_filter.1 he
    obtain ⟨k, hk, hke⟩ := Array.getElem_of_mem (Array.mem_toList_iff.1 h1)
    refine ⟨k, hk, ?_⟩
    rw [hke]
    simp only [Bool.and_eq_true, beq_iff_eq]
    exact ⟨h2, hon⟩

theorem edge_after {op : Oper} {io : IOp} (h : OpIO P cand N ops op io) {e : Edge} (he : e ∈ op.after) (hb : Region.binds .any e = true) : e.on ∈ io.after := by
  rw [h.after]
  exact List.mem_map.2 ⟨e, List.mem_filter.2 ⟨by simpa using he, hb⟩, rfl⟩


/-- What the check of an order says of its first step. -/
structure Chk (ops : Array Oper) (s : DS) (t : List DS) : Prop where
  free : ∀ p ∈ s.io.after, p ≠ s.j ∧ ∀ y ∈ t, y.j ≠ p
  ne : ∀ y ∈ t, y.j ≠ s.j
  q : s.k = .q → ∀ y ∈ t, s.j ∈ y.io.after ∨ apartB ops s y = true
  e : s.k ≠ .q → ∀ y ∈ t, isF y = false → ∃ p ∈ y.io.after, p = s.j ∨ ∃ z ∈ t, isF z = false ∧ z.j = p
  f : ∀ y ∈ t, isF y = true → (s.j ∈ y.io.after ∨ apartB ops s y = true) ∧ (isF s = true → s.j ∉ y.io.after)
  self : isF s = true → s.io.guard = none ∧ freeF s.io.op = true
  rest : chk ops t = true
theorem chk_cons {s : DS} {t : List DS} (h : chk ops (s :: t) = true) : Chk ops s t := by
  simp only [chk, Bool.and_eq_true, List.all_eq_true] at h
  obtain ⟨⟨⟨h1, h2⟩, h3⟩, h4⟩ := h
  refine ⟨?_, ?_, ?_, ?_, ?_, ?_, h4⟩
  · intro p hp
    have hn : p ∉ s.j :: jsOf t := by
      intro hm
      rw [anyNat_iff.2 ⟨p, hp, hm⟩] at h1
      cases h1
    refine ⟨fun e => hn (by rw [e]; exact List.mem_cons_self), fun y hy e => hn (List.mem_cons_of_mem _ (mem_jsOf.2 ⟨y, hy, e⟩))⟩
  · intro y hy; simpa using (h2 y hy).1.1
  · intro hk y hy
    have := (h2 y hy).1.2
    rw [hk] at this
    simpa [hasNat_mem] using this
  · intro hk y hy hf
    have := (h2 y hy).1.2
    have h' : anyNat (s.j :: jsOf (t.filter fun z => !isF z)) y.io.after = true := by
      cases hkk : s.k
      · exact absurd hkk hk
      all_goals
        rw [hkk] at this
        simpa [hf] using this
    obtain ⟨p, hp, hm⟩ := anyNat_iff.1 h'
    refine ⟨p, hp, ?_⟩
    rcases List.mem_cons.1 hm with hm | hm
    · exact .inl hm
    · obtain ⟨z, hz, hj⟩ := mem_jsOf.1 hm
      obtain ⟨g1, g2⟩ := List.mem_filter.1 hz
      exact .inr ⟨z, g1, by simpa using g2, hj⟩
  · intro y hy hf
    have := (h2 y hy).2
    rw [hf] at this
    simp only [Bool.not_true, Bool.false_or, Bool.and_eq_true, Bool.or_eq_true, hasNat_mem, Bool.not_eq_true', Bool.and_eq_false_iff] at this
    refine ⟨this.1, fun hs hm => ?_⟩
    rcases this.2 with g | g
    · rw [hs] at g; cases g
    · rw [hasNat_mem.2 hm] at g; cases g
  · intro hs
    rw [hs] at h3
    simp only [Bool.not_true, Bool.false_or, Bool.and_eq_true, Option.isNone_iff_eq_none] at h3
    exact h3

theorem chk_inj : ∀ {t : List DS}, chk ops t = true → ∀ x ∈ t, ∀ y ∈ t, x.j = y.j → x = y
  | [], _, x, hx, _, _, _ => by cases hx
  | s :: t, h, x, hx, y, hy, e => by
    have c := chk_cons h
    rcases List.mem_cons.1 hx with hx1 | hx1 <;> rcases List.mem_cons.1 hy with hy1 | hy1
    · rw [hx1, hy1]
    · subst hx1; exact absurd e.symm (c.ne y hy1)
    · subst hy1; exact absurd e (c.ne x hx1)
    · exact chk_inj c.rest x hx1 y hy1 e
theorem chk_ff : ∀ {t : List DS}, chk ops t = true → ∀ x ∈ t, ∀ y ∈ t, isF x = true → isF y = true → x.j ∉ y.io.after
  | [], _, x, hx, _, _, _, _ => by cases hx
  | s :: t, h, x, hx, y, hy, fx, fy => by
    have c := chk_cons h
    rcases List.mem_cons.1 hx with hx1 | hx1 <;> rcases List.mem_cons.1 hy with hy1 | hy1
    · subst hx1; subst hy1; exact fun hm => (c.free _ hm).1 rfl
    · subst hx1; exact (c.f y hy1 fy).2 fx
    · subst hy1; exact fun hm => (c.free _ hm).2 x hx1 rfl
    · exact chk_ff c.rest x hx1 y hy1 fx fy
theorem chk_fapart : ∀ {t : List DS}, chk ops t = true → ∀ x ∈ t, ∀ y ∈ t, isF x = true → isF y = true → x.j ≠ y.j → apartB ops x y = true ∨ apartB ops y x = true
  | [], _, x, hx, _, _, _, _, _ => by cases hx
  | s :: t, h, x, hx, y, hy, fx, fy, ne => by
    have c := chk_cons h
    rcases List.mem_cons.1 hx with hx1 | hx1 <;> rcases List.mem_cons.1 hy with hy1 | hy1
    · subst hx1; subst hy1; exact absurd rfl ne
    · subst hx1; exact .inl ((c.f y hy1 fy).1.resolve_left ((c.f y hy1 fy).2 fx))
    · subst hy1; exact .inr ((c.f x hx1 fx).1.resolve_left ((c.f x hx1 fx).2 fy))
    · exact chk_fapart c.rest x hx1 y hy1 fx fy ne

/-- A block made early: the step, what it yields, what it made, where. -/
structure Pd where
  s : DS
  op : Oper
  x : Value
  ob : Obj
  we : World
def putAll (a : Act) : List Pd → Act
  | [] => a
  | p :: l => (putAll a l).put p.op.dst p.x
theorem putAll_defers {a : Act} : ∀ {l : List Pd}, (putAll a l).defers = a.defers
  | [] => rfl
  | p :: l => by rw [putAll, put_defers', putAll_defers]
theorem eval_putAll {a : Act} {op : Oper} (hs : ∀ cs b, op.op ≠ .select cs b) : ∀ {l : List Pd}, (∀ p ∈ l, ∀ d, p.op.dst = some d → d ∉ op.looksAt ops) → execOp (putAll a l).eval op = execOp a.eval op
  | [], _ => rfl
  | p :: l, h => by rw [putAll, execOp_put (ops := ops) op hs _ _ _ (h p List.mem_cons_self), eval_putAll hs fun q hq => h q (List.mem_cons_of_mem _ hq)]
theorem wanted_putAll {a : Act} {op : Oper} : ∀ {l : List Pd}, (∀ p ∈ l, ∀ d, p.op.dst = some d → d ∉ op.looksAt ops) → Region.wanted op (yielded ops (putAll a l).tmps) = Region.wanted op (yielded ops a.tmps)
  | [], _ => rfl
  | p :: l, h => by rw [putAll, wanted_put op _ _ _ (h p List.mem_cons_self), wanted_putAll fun q hq => h q (List.mem_cons_of_mem _ hq)]
theorem putAll_put {a : Act} {d : Option Tmp} {v : Value} : ∀ {l : List Pd}, (∀ p ∈ l, ∀ e, d = some e → p.op.dst ≠ some e) → (putAll a l).put d v = putAll (a.put d v) l
  | [], _ => rfl
  | p :: l, h => by
    rw [putAll, putAll, ← putAll_put fun q hq => h q (List.mem_cons_of_mem _ hq)]
    exact (Act.put_comm _ v p.x (h p List.mem_cons_self)).symm
/-- Two of them have nothing to do with each other. -/
def Far (p q : Pd) : Prop := p.s.j ≠ q.s.j ∧ (∀ d, p.op.dst = some d → q.op.dst ≠ some d) ∧ p.we.heap.size ≠ q.we.heap.size
theorem Far.symm {p q : Pd} (h : Far p q) : Far q p := ⟨h.1.symm, fun d h1 h2 => h.2.1 d h2 h1, h.2.2.symm⟩
theorem putAll_take {a : Act} {p : Pd} : ∀ {l : List Pd}, p ∈ l → l.Pairwise Far → putAll a l = putAll (a.put p.op.dst p.x) (l.filter fun q => q.s.j != p.s.j)
  | q :: l, hp, hf => by
    obtain ⟨h1, h2⟩ := List.pairwise_cons.1 hf
    rcases List.mem_cons.1 hp with hp | hp
    · subst hp
      have : (p :: l).filter (fun q => q.s.j != p.s.j) = l := by
        rw [List.filter_cons, if_neg (by simp)]
        exact List.filter_eq_self.2 fun r hr => by simpa using (h1 r hr).1.symm
      rw [this, putAll, putAll_put fun r hr e he => (h1 r hr).2.1 e he]
    · have hne : q.s.j ≠ p.s.j := (h1 p hp).1
      rw [List.filter_cons, if_pos (by simpa using hne), putAll, putAll, putAll_take hp h2]

/-- A block that was made early lies there, and nobody has it. -/
structure PdOk (P : Program) (ops : Array Oper) (b0 : Nat) (h : Nat → Frag) (a : Act) (w : World) (p : Pd) : Prop where
  hop : ops[p.s.j]? = some p.op
  run : (execOp a.eval p.op).run P p.we = .ok (.value p.x) (wpush p.we p.ob)
  base : b0 ≤ p.we.heap.size
  here : w.heap[p.we.heap.size]? = some p.ob
  free : ∀ i, h i p.we.heap.size = none
theorem PdOk.put {b0 : Nat} {h : Nat → Frag} {a : Act} {w : World} {p : Pd} (hp : PdOk P ops b0 h a w p) (hs : ∀ cs b, p.op.op ≠ .select cs b) {d : Option Tmp} {v : Value} (hd : ∀ e, d = some e → e ∉ p.op.looksAt ops) : PdOk P ops b0 h (a.put d v) w p :=
  ⟨hp.hop, by rw [execOp_put (ops := ops) p.op hs a d v hd]; exact hp.run, hp.base, hp.here, hp.free⟩
theorem PdOk.fr {b0 : Nat} {h h' : Nat → Frag} {a : Act} {w w' : World} {p : Pd} (hp : PdOk P ops b0 h a w p) (hF : Fr h h' w w') : PdOk P ops b0 h' a w' p := by
  have hlt : p.we.heap.size < w.heap.size := (Array.getElem?_eq_some_iff.1 hp.here).1
  refine ⟨hp.hop, hp.run, hp.base, by rw [hF.keep _ hlt hp.free]; exact hp.here, fun i => ?_⟩
  cases hb : h' i p.we.heap.size with
  | none => rfl
  | some ob =>
    rcases hF.own i _ ob hb with ⟨j, o', hj⟩ | hge
    · rw [hp.free j] at hj; cases hj
    · omega

/-- What lies there already is one entry more. -/
theorem Emb.adopt {φ : Phi} {V V' : List VB} {h : Nat → Frag} {w : World} {n b : Nat} {ob : Obj} {vb : VB} (hE : Emb W0 φ V h w) (hn : φ n = none) (hlen : V.length ≤ V'.length) (h1 : V'[n]? = some vb) (h2 : ∀ i, i ≠ n → V'[i]? = V[i]?)
    (hb0 : W0.heap.size ≤ b) (hw : w.heap[b]? = some ob) (hfree : ∀ i, h i b = none) (hok : vb.ok W0 (φ.set n (b, 0)) (single b ob) n) : Emb W0 (φ.set n (b, 0)) V' (hset h n (single b ob)) w := by
  refine ⟨hE.size, hE.old, ?_, ?_, ?_, ?_⟩
  · intro i c o' hc
    unfold hset at hc
    split at hc
    · unfold single at hc
      split at hc
      · rename_i e; subst e; cases hc; exact ⟨hb0, hw⟩
      · cases hc
    · exact hE.sub i c o' hc
  · intro i j c hij
    unfold hset
    by_cases e1 : i = n
    · by_cases e2 : j = n
      · omega
      · rw [if_pos e1, if_neg e2]
        unfold single
        split
        · rename_i e; subst e; exact .inr (hfree j)
        · exact .inl rfl
    · by_cases e2 : j = n
      · rw [if_neg e1, if_pos e2]
        unfold single
        split
        · rename_i e; subst e; exact .inl (hfree i)
        · exact .inr rfl
      · rw [if_neg e1, if_neg e2]; exact hE.disj i j c hij
  · intro i hi
    have hne : i ≠ n := by
      rintro rfl
      rw [List.getElem?_eq_none hi] at h1; cases h1
    simp only [Phi.set, if_neg hne]
    exact hE.dom i (by omega)
  · intro i vb' hi
    by_cases e : i = n
    · subst e
      rw [h1] at hi; cases hi
      simpa [hset] using hok
    · rw [h2 i e] at hi
      have := hE.sat i vb' hi
      simp only [hset, if_neg e]
      exact VB.ok_mono (Phi.le_set hn) this (by intro h0; simp [Phi.set, e, h0])
/-- A block that nobody has changes nothing. -/
theorem Emb.over {φ : Phi} {V : List VB} {h : Nat → Frag} {w : World} (hE : Emb W0 φ V h w) (ob : Obj) : Emb W0 φ V h (wpush w ob) ∧ Fr h h w (wpush w ob) := by
  have hget : ∀ b, b < w.heap.size → (wpush w ob).heap[b]? = w.heap[b]? := fun b hb => by
    simp only [wpush, Array.getElem?_push]; rw [if_neg (by omega)]
  refine ⟨⟨?_, ?_, ?_, hE.disj, hE.dom, hE.sat⟩, ⟨by simp [wpush], fun x hx _ => hget x hx, fun i b o' hb => .inl ⟨i, o', hb⟩, ⟨rfl, rfl, rfl⟩⟩⟩
  · simp [wpush]; have := hE.size; omega
  · intro b hb; rw [hget b (Nat.lt_of_lt_of_le hb hE.size)]; exact hE.old b hb
  · intro i b o' hb
    obtain ⟨g1, g2⟩ := hE.sub i b o' hb
    exact ⟨g1, by rw [hget b (Array.getElem?_eq_some_iff.1 g2).1]; exact g2⟩
theorem wpush_inj {w : World} {a b : Obj} (h : wpush w a = wpush w b) : a = b := by
  have h1 : w.heap.push a = w.heap.push b := congrArg (fun w : World => w.heap) h
  exact (Array.push_eq_push.1 h1).1
def QN (R : Act → World → Prop) : Exit → Act → World → Prop
  | .normal, a, w => R a w
  | _, _, _ => False

theorem gd_cases {φ : Phi} {env : Env} {a : Act} {op : Oper} {s : DS} {pins : List Pin} {rest : List Pin → Env → List VB → Prop} {V : List VB} (hio : OpIO P cand N ops op s.io) (hR : EnvR φ N env a)
    (hk : match s.io.guard with
      | none => wdex o s pins rest env V
      | some (g, want) => match env g with
        | .bool b => ifB b
          (fun _ => match want with
            | true => wdex o s pins rest (put env (some g) (.bool true)) V
            | false => wdsk s pins rest (put env (some g) (.bool true)) V)
          (fun _ => match want with
            | false => wdex o s pins rest (put env (some g) (.bool false)) V
            | true => wdsk s pins rest (put env (some g) (.bool false)) V)
        | .raw _ => False
        | _ => wdsk s pins rest env V) :
    (Region.wanted op (yielded ops a.tmps) = true ∧ ∃ env0, EnvR φ N env0 a ∧ wdex o s pins rest env0 V) ∨
    (Region.wanted op (yielded ops a.tmps) = false ∧ ∃ env0, EnvR φ N env0 a ∧ wdsk s pins rest env0 V) := by
  rcases hio.gd with ⟨hg, hg'⟩ | ⟨j, want, d, hg, hd, hdN, hg'⟩
  · rw [hg'] at hk
    exact .inl ⟨by simp [Region.wanted, hg], env, hR, hk⟩
  · rw [hg'] at hk
    simp only at hk
    obtain ⟨y1, y2⟩ := yielded_bool hR hd hdN
    have wt : ∀ {b : Bool}, env d = .bool b → Region.wanted op (yielded ops a.tmps) = (b == want) := by
      intro b hb
      simp only [Region.wanted, hg, y1 b hb]
      cases b <;> cases want <;> rfl
    split at hk
    · rename_i b hb
      have hR0 := hR.lit hb
      rw [wt hb]
      cases b
      · have hk2 := ifB_false hk rfl
        cases want
        · exact .inl ⟨rfl, _, hR0, hk2⟩
        · exact .inr ⟨rfl, _, hR0, hk2⟩
      · have hk2 := ifB_true hk rfl
        cases want
        · exact .inr ⟨rfl, _, hR0, hk2⟩
        · exact .inl ⟨rfl, _, hR0, hk2⟩
    · exact hk.elim
    · rename_i hnb hnr
      refine .inr ⟨?_, env, hR, hk⟩
      simp only [Region.wanted, hg, y2 (fun b hb => hnb b hb) (fun x hx => hnr x hx)]
      cases want <;> rfl

theorem RPins.mono {φ φ' : Phi} {pins : List Pin} {rps : List RP} (h : RPins φ pins rps) (hle : φ.le φ') : RPins φ' pins rps := fun r hr => (h r hr).imp id fun ⟨q, hq, hp⟩ => ⟨q, hq, hp.mono hle⟩


def cntF : List Bool → Nat
  | [] => 0
  | b :: l => (if b then 0 else 1) + cntF l
theorem cntF_set : ∀ {l : List Bool} {i : Nat}, l[i]? = some false → cntF (l.set i true) + 1 = cntF l
  | [], i, h => by simp at h
  | b :: l, 0, h => by simp at h; subst h; simp [cntF]; omega
  | b :: l, i + 1, h => by
    have := cntF_set (l := l) (i := i) (by simpa using h)
    simp only [List.set_cons_succ, cntF]; omega
def cnt (listed : Array Bool) : Nat := cntF listed.toList
theorem cnt_set {listed : Array Bool} {i : Nat} (h : listed.getD i true = false) : cnt (listed.setIfInBounds i true) + 1 = cnt listed := by
  have hlt : i < listed.size := by
    rcases Nat.lt_or_ge i listed.size with h' | h'
    · exact h'
    · simp [Array.getElem?_eq_none h'] at h
  have : listed.toList[i]? = some false := by
    simp [hlt] at h ⊢; exact h
  simpa [cnt] using cntF_set this

/-- What the rest of the order keeps. -/
structure WFs (P : Program) (cand : List TypeId) (N : Nat) (ops : Array Oper) (t : List DS) (pd : List Pd) (listed : Array Bool) : Prop where
  chk : chk ops t = true
  cov : ∀ i, listed.getD i true = false ↔ (∃ s ∈ t, s.j = i) ∧ ∀ p ∈ pd, p.s.j ≠ i
  sz : listed.size = ops.size
  io : ∀ s ∈ t, ∃ op, ops[s.j]? = some op ∧ OpIO P cand N ops op s.io
  bnd : ∀ s ∈ t, ∀ p ∈ s.io.after, p < ops.size
  mem : ∀ p ∈ pd, p.s ∈ t ∧ isF p.s = true
  dn : ∀ p ∈ pd, ∀ q ∈ p.s.io.after, ∀ y ∈ t, y.j ≠ q
  far : pd.Pairwise Far

theorem getD_self {listed : Array Bool} {i : Nat} (h : i < listed.size) : (listed.setIfInBounds i true).getD i true = true := by simp [h]

theorem WFs.listed {t : List DS} {pd : List Pd} {listed : Array Bool} (hw : WFs P cand N ops t pd listed) {s : DS} (hs : s ∈ t) (hp : ∀ p ∈ pd, p.s.j ≠ s.j) : listed.getD s.j true = false := (hw.cov s.j).2 ⟨⟨s, hs, rfl⟩, hp⟩
theorem WFs.lt {t : List DS} {pd : List Pd} {listed : Array Bool} (hw : WFs P cand N ops t pd listed) {s : DS} (hs : s ∈ t) : s.j < listed.size := by
  obtain ⟨op, hop, _⟩ := hw.io s hs
  rw [hw.sz]; exact (Array.getElem?_eq_some_iff.1 hop).1

theorem WFs.ready {s : DS} {t : List DS} {pd : List Pd} {listed : Array Bool} (hw : WFs P cand N ops (s :: t) pd listed) (hp : ∀ p ∈ pd, p.s.j ≠ s.j) : s.j ∈ Region.ready .any ops listed := by
  obtain ⟨op, hop, hio⟩ := hw.io s (by simp)
  have c := chk_cons hw.chk
  refine mem_ready.2 ⟨hw.listed (by simp) hp, op, hop, fun e he hb => ?_⟩
  have hm := edge_after hio he hb
  have hlt : e.on < listed.size := by rw [hw.sz]; exact hw.bnd s (by simp) _ hm
  rw [getD_tf hlt, getD_true_iff]
  intro hun
  obtain ⟨⟨y, hy, hj⟩, _⟩ := (hw.cov e.on).1 hun
  rcases List.mem_cons.1 hy with h | h
  · subst h; exact (c.free _ hm).1 hj.symm
  · exact (c.free _ hm).2 y h hj

/-- What is taken next is the first of the order, or what may be drawn early. -/
theorem WFs.only {s : DS} {t : List DS} {pd : List Pd} {listed : Array Bool} (hw : WFs P cand N ops (s :: t) pd listed) (hp : ∀ p ∈ pd, p.s.j ≠ s.j) (hk : s.k ≠ .q) {r : Nat} (hr : r ∈ Region.ready .any ops listed) :
    r = s.j ∨ ∃ f ∈ t, isF f = true ∧ f.j = r ∧ (∀ p ∈ pd, p.s.j ≠ f.j) ∧ ∀ q ∈ f.io.after, ∀ y ∈ s :: t, y.j ≠ q := by
  obtain ⟨hun, op, hop, hall⟩ := mem_ready.1 hr
  obtain ⟨⟨y, hy, hj⟩, hnp⟩ := (hw.cov r).1 hun
  have c := chk_cons hw.chk
  rcases List.mem_cons.1 hy with h | h
  · subst h; exact .inl hj.symm
  refine .inr ⟨y, h, ?_⟩
  obtain ⟨op', hop', hio⟩ := hw.io y hy
  rw [hj, hop] at hop'; cases hop'
  -- what it waits for is listed
  have hdir : ∀ q ∈ y.io.after, listed.getD q true = true := by
    intro q hq
    rw [hio.after] at hq
    obtain ⟨e, he, hon⟩ := List.mem_map.1 hq
    obtain ⟨h1, h2⟩ := List.mem_filter.1 he
    have := hall e (by simpa using h1) h2
    rw [hon] at this
    rcases Nat.lt_or_ge q listed.size with hlt | hge
    · rw [← getD_tf hlt]; exact this
    · simp [Array.getElem?_eq_none hge]
  have hF : isF y = true := by
    cases hfy : isF y with
    | true => rfl
    | false =>
      obtain ⟨q, hq, hq2⟩ := c.e hk y h hfy
      have hl := hdir q hq
      have hu : listed.getD q true = false := by
        rcases hq2 with rfl | ⟨z, hz, hfz, rfl⟩
        · exact hw.listed (by simp) hp
        · refine hw.listed (List.mem_cons_of_mem _ hz) fun p hpp e => ?_
          obtain ⟨g1, g2⟩ := hw.mem p hpp
          have := chk_inj hw.chk p.s g1 z (List.mem_cons_of_mem _ hz) e
          rw [this, hfz] at g2; cases g2
      rw [hl] at hu; cases hu
  refine ⟨hF, hj, fun p hpp => by rw [hj]; exact hnp p hpp, fun q hq z hz e => ?_⟩
  subst e
  have hl := hdir z.j hq
  rw [getD_true_iff] at hl
  refine hl ((hw.cov z.j).2 ⟨⟨z, hz, rfl⟩, fun p hpp e => ?_⟩)
  obtain ⟨g1, g2⟩ := hw.mem p hpp
  have := chk_inj hw.chk p.s g1 z hz e
  rw [this] at g2
  exact chk_ff hw.chk z hz y hy g2 hF hq

theorem WFs.next {s : DS} {t : List DS} {pd : List Pd} {listed : Array Bool} (hw : WFs P cand N ops (s :: t) pd listed) (hp : ∀ p ∈ pd, p.s.j ≠ s.j) : WFs P cand N ops t pd (listed.setIfInBounds s.j true) := by
  have c := chk_cons hw.chk
  have hlt := hw.lt (s := s) (by simp)
  refine ⟨c.rest, fun i => ?_, by simp [hw.sz], fun x hx => hw.io x (by simp [hx]), fun x hx => hw.bnd x (by simp [hx]), fun p hpp => ?_, fun p hpp q hq y hy => hw.dn p hpp q hq y (by simp [hy]), hw.far⟩
  · by_cases e : s.j = i
    · subst e
      rw [getD_self hlt]
      constructor
      · intro h; cases h
      · rintro ⟨⟨y, hy, hj⟩, _⟩; exact absurd hj (c.ne y hy)
    · rw [getD_set_ne true e, hw.cov i]
      constructor
      · rintro ⟨⟨y, hy, hj⟩, h2⟩
        rcases List.mem_cons.1 hy with h | h
        · subst h; exact absurd hj e
        · exact ⟨⟨y, h, hj⟩, h2⟩
      · rintro ⟨⟨y, hy, hj⟩, h2⟩; exact ⟨⟨y, by simp [hy], hj⟩, h2⟩
  · obtain ⟨g1, g2⟩ := hw.mem p hpp
    rcases List.mem_cons.1 g1 with h | h
    · exact absurd (by rw [h]) (hp p hpp)
    · exact ⟨h, g2⟩

theorem WFs.adopt {s : DS} {t : List DS} {pd : List Pd} {listed : Array Bool} (hw : WFs P cand N ops (s :: t) pd listed) {p : Pd} (hp : p ∈ pd) (hps : p.s.j = s.j) : WFs P cand N ops t (pd.filter fun q => q.s.j != p.s.j) listed := by
  have c := chk_cons hw.chk
  refine ⟨c.rest, fun i => ?_, hw.sz, fun x hx => hw.io x (by simp [hx]), fun x hx => hw.bnd x (by simp [hx]), fun q hq => ?_, fun q hq r hr y hy => hw.dn q (List.mem_filter.1 hq).1 r hr y (by simp [hy]), hw.far.filter _⟩
  · rw [hw.cov i]
    constructor
    · rintro ⟨⟨y, hy, hj⟩, h2⟩
      rcases List.mem_cons.1 hy with h | h
      · subst h; exact absurd (hps.trans hj) (h2 p hp)
      · exact ⟨⟨y, h, hj⟩, fun q hq => h2 q (List.mem_filter.1 hq).1⟩
    · rintro ⟨⟨y, hy, hj⟩, h2⟩
      refine ⟨⟨y, by simp [hy], hj⟩, fun q hq e => ?_⟩
      by_cases e2 : q.s.j = p.s.j
      · exact c.ne y hy (by rw [hj, ← e, e2, hps])
      · exact h2 q (List.mem_filter.2 ⟨hq, by simpa using e2⟩) e
  · obtain ⟨q1, q2⟩ := List.mem_filter.1 hq
    obtain ⟨g1, g2⟩ := hw.mem q q1
    rcases List.mem_cons.1 g1 with h | h
    · rw [h, hps] at q2; simp at q2
    · exact ⟨h, g2⟩

theorem WFs.early {t : List DS} {pd : List Pd} {listed : Array Bool} (hw : WFs P cand N ops t pd listed) {p : Pd} (hp : p.s ∈ t) (hF : isF p.s = true) (hn : ∀ q ∈ pd, q.s.j ≠ p.s.j) (ha : ∀ q ∈ p.s.io.after, ∀ y ∈ t, y.j ≠ q) (hfar : ∀ q ∈ pd, Far p q) :
    WFs P cand N ops t (p :: pd) (listed.setIfInBounds p.s.j true) := by
  have hlt := hw.lt hp
  refine ⟨hw.chk, fun i => ?_, by simp [hw.sz], hw.io, hw.bnd, fun q hq => ?_, fun q hq => ?_, List.pairwise_cons.2 ⟨hfar, hw.far⟩⟩
  · by_cases e : p.s.j = i
    · subst e
      rw [getD_self hlt]
      constructor
      · intro h; cases h
      · rintro ⟨_, h2⟩; exact absurd rfl (h2 p List.mem_cons_self)
    · rw [getD_set_ne true e, hw.cov i]
      constructor
      · rintro ⟨h1, h2⟩
        refine ⟨h1, fun q hq => ?_⟩
        rcases List.mem_cons.1 hq with h | h
        · subst h; exact e
        · exact h2 q h
      · rintro ⟨h1, h2⟩; exact ⟨h1, fun q hq => h2 q (List.mem_cons_of_mem _ hq)⟩
  · rcases List.mem_cons.1 hq with h | h
    · subst h; exact ⟨hp, hF⟩
    · exact hw.mem q h
  · rcases List.mem_cons.1 hq with h | h
    · subst h; exact ha
    · exact hw.dn q h

theorem apartB_spec {x y : DS} {a b : Oper} (h : apartB ops x y = true) (ha : ops[x.j]? = some a) (hb : ops[y.j]? = some b) : a.apart ops b = true := by
  unfold apartB at h
  rw [ha, hb] at h
  simpa using h
/-- Two operations that have nothing to do with each other, whichever way it is asked. -/
structure Ap (ops : Array Oper) (a b : Oper) : Prop where
  ab : ∀ d, a.dst = some d → d ∉ b.looksAt ops
  ba : ∀ d, b.dst = some d → d ∉ a.looksAt ops
  ne : ∀ d, a.dst = some d → b.dst ≠ some d
theorem Ap.of {a b : Oper} (h : a.apart ops b = true) : Ap ops a b := let ⟨h1, h2, h3⟩ := Oper.apart_spec h; ⟨h1, h3, h2⟩
theorem Ap.symm {a b : Oper} (h : Ap ops a b) : Ap ops b a := ⟨h.ba, h.ab, fun d h1 h2 => h.ne d h2 h1⟩

/-- The first of the order has nothing to do with what was made early. -/
theorem WFs.ap {s : DS} {t : List DS} {pd : List Pd} {listed : Array Bool} (hw : WFs P cand N ops (s :: t) pd listed) (hp : ∀ p ∈ pd, p.s.j ≠ s.j) (hpo : ∀ p ∈ pd, ops[p.s.j]? = some p.op) {op : Oper} (hop : ops[s.j]? = some op) : ∀ p ∈ pd, Ap ops op p.op := by
  intro p hpp
  have c := chk_cons hw.chk
  obtain ⟨g1, g2⟩ := hw.mem p hpp
  rcases List.mem_cons.1 g1 with h | h
  · exact absurd (by rw [h]) (hp p hpp)
  · rcases (c.f p.s h g2).1 with h1 | h1
    · exact absurd rfl (hw.dn p hpp _ h1 s (by simp))
    · exact Ap.of (apartB_spec h1 hop (hpo p hpp))
theorem apFF {t : List DS} (hc : chk ops t = true) {x y : DS} (hx : x ∈ t) (hy : y ∈ t) (fx : isF x = true) (fy : isF y = true) (ne : x.j ≠ y.j) {a b : Oper} (ha : ops[x.j]? = some a) (hb : ops[y.j]? = some b) : Ap ops a b := by
  rcases chk_fapart hc x hx y hy fx fy ne with h | h
  · exact Ap.of (apartB_spec h ha hb)
  · exact (Ap.of (apartB_spec h hb ha)).symm
theorem WFs.apF {t : List DS} {pd : List Pd} {listed : Array Bool} (hw : WFs P cand N ops t pd listed) {f : DS} (hf : f ∈ t) (hF : isF f = true) (hn : ∀ p ∈ pd, p.s.j ≠ f.j) (hpo : ∀ p ∈ pd, ops[p.s.j]? = some p.op) {op : Oper} (hop : ops[f.j]? = some op) : ∀ p ∈ pd, Ap ops op p.op := by
  intro p hpp
  obtain ⟨g1, g2⟩ := hw.mem p hpp
  rcases chk_fapart hw.chk f hf p.s g1 hF g2 (fun e => hn p hpp e.symm) with h | h
  · exact Ap.of (apartB_spec h hop (hpo p hpp))
  · exact (Ap.of (apartB_spec h (hpo p hpp) hop)).symm

theorem earlyB_get {env : Env} {n : Nat} {js : List Nat} : ∀ {l : List DS}, earlyB o env n js l = true → ∀ y ∈ l, isF y = true → (∀ p ∈ y.io.after, p ∉ js) → ∃ vb v c, fresh o y.io.op env n = some (vb, v, c) ∧ (c = none ∨ c = some true)
  | [], _, y, hy, _, _ => by cases hy
  | z :: l, h, y, hy, hf, hn => by
    have tail : earlyB o env n js l = true → y ∈ l → ∃ vb v c, fresh o y.io.op env n = some (vb, v, c) ∧ (c = none ∨ c = some true) := fun h1 h2 => earlyB_get h1 y h2 hf hn
    simp only [earlyB] at h
    rcases List.mem_cons.1 hy with hyz | hyl
    · subst hyz
      have hk : y.k = .f := by
        unfold isF at hf
        cases hk : y.k <;> rw [hk] at hf <;> first | rfl | cases hf
      rw [hk] at h
      have ha : anyNat js y.io.after = false := by
        cases hb : anyNat js y.io.after with
        | false => rfl
        | true => obtain ⟨p, h1, h2⟩ := anyNat_iff.1 hb; exact absurd h2 (hn p h1)
      rw [ha] at h
      simp only at h
      split at h
      · rename_i vb v hv; exact ⟨vb, v, none, hv, .inl rfl⟩
      · rename_i vb v b hv
        cases b with
        | true => exact ⟨vb, v, _, hv, .inr rfl⟩
        | false => cases h
      · cases h
    · refine tail ?_ hyl
      split at h
      · split at h
        · exact h
        · split at h
          · exact h
          · split at h
            · exact h
            · cases h
          · cases h
      · exact h

theorem wop_fresh {i : I} (hf : freeF i = true) {env : Env} {V : List VB} {K : VV → List VB → Prop} (hk : wop o i env V K) : ∃ vb v c, fresh o i env (llen V) = some (vb, v, c) ∧ (c = none ∨ c = some true) ∧ K v (lapp V [vb]) := by
  cases i <;> simp only [freeF] at hf <;> first | cases hf; done | skip
  all_goals simp only [wop, pval, lval] at hk
  all_goals
    split at hk
    · rename_i vb v hv; exact ⟨vb, v, _, hv, .inl rfl, hk⟩
    · rename_i vb v b hv; exact ⟨vb, v, _, hv, .inr (by rw [hk.1]), hk.2⟩
    · rename_i hv
      first
      | (simp [fresh] at hv; done)
      | (simp only [weff] at hk)

theorem pinsOk_keep {after : List Nat} : ∀ {l : List Pin} {V : List VB}, pinsOk o l V → pinsOk o (keepPins after l) V
  | [], _, _ => trivial
  | p :: l, V, h => by
    simp only [keepPins]
    split
    · exact pinsOk_keep h.2
    · exact ⟨h.1, pinsOk_keep h.2⟩

theorem far_of : ∀ {pd : List Pd}, pd.Pairwise Far → ∀ p ∈ pd, ∀ q ∈ pd, p.s.j ≠ q.s.j → Far p q
  | [], _, p, hp, _, _, _ => by cases hp
  | r :: l, h, p, hp, q, hq, ne => by
    obtain ⟨h1, h2⟩ := List.pairwise_cons.1 h
    rcases List.mem_cons.1 hp with hp1 | hp1 <;> rcases List.mem_cons.1 hq with hq1 | hq1
    · rw [hp1, hq1] at ne; exact absurd rfl ne
    · rw [hp1]; exact h1 q hq1
    · rw [hq1]; exact (h1 p hp1).symm
    · exact far_of h2 p hp1 q hq1 ne

theorem wdr_ok (hns : Region.noSelect ops = true) {K : Env → List VB → Prop} {R : Act → World → Prop} {φ0 : Phi} {h0 : Nat → Frag} {w0 : World} (hW0 : W0.heap.size ≤ w0.heap.size) :
    ∀ (t : List DS) (fuel : Nat) (listed : Array Bool) (pins : List Pin) (rps : List RP) (pd : List Pd) (φ : Phi) (env : Env) (a : Act) (V : List VB) (h : Nat → Frag) (w : World),
      cnt listed ≤ fuel → WFs P cand N ops t pd listed → wdr o K pins env V t → EnvR φ N env a → Emb W0 φ V h w → a.defers = [] → RPins φ pins rps → pinsOk o pins V → (∀ r ∈ rps, r.S w) →
      (∀ p ∈ pd, PdOk P ops w0.heap.size h a w p) → (∀ p ∈ pd, ∀ r ∈ rps, waits ops p.s.j r.j = false) → φ0.le φ → Fr h0 h w0 w →
      (∀ a' w', PostV W0 N φ0 h0 w0 K a' w' → R a' w') → wpAnyP P ops (QN R) fuel listed rps (putAll a pd) w
  | [], fuel, listed, pins, rps, pd, φ, env, a, V, h, w, hf, hw, hk, hR, hE, hd, hp, hpv, hps, hpo, hwt, hle, hF, hQ => by
    have hr : Region.ready .any ops listed = [] := by
      apply List.eq_nil_iff_forall_not_mem.2
      intro r hr
      obtain ⟨⟨s, hs, _⟩, _⟩ := (hw.cov r).1 (mem_ready.1 hr).1
      cases hs
    have hpd : pd = [] := by
      cases pd with
      | nil => rfl
      | cons p l => have := (hw.mem p List.mem_cons_self).1; cases this
    subst hpd
    have hfin : QN R .normal a w := hQ a w ⟨env, V, φ, h, hk, hle, hR, hE, hF, hd⟩
    cases fuel with
    | zero => exact ⟨hr, hfin⟩
    | succ fuel => exact ⟨fun _ => hfin, by rw [hr]; simp⟩
  | s :: t, fuel, listed, pins, rps, pd, φ, env, a, V, h, w, hf, hw, hk, hR, hE, hd, hp, hpv, hps, hpo, hwt, hle, hF, hQ => by
    obtain ⟨op, hop, hio⟩ := hw.io s (by simp)
    have c := chk_cons hw.chk
    have hsel := Region.noSelect_spec hns
    by_cases hpend : ∃ p ∈ pd, p.s.j = s.j
    · -- it was made early
      obtain ⟨p, hpp, hps'⟩ := hpend
      obtain ⟨g1, g2⟩ := hw.mem p hpp
      have hs : p.s = s := chk_inj hw.chk p.s g1 s List.mem_cons_self hps'
      rw [hs] at g2
      obtain ⟨hg, hfree⟩ := c.self g2
      have hkf : s.k = .f := by
        unfold isF at g2
        cases hk' : s.k <;> rw [hk'] at g2 <;> first | rfl | cases g2
      have hpk := hpo p hpp
      have hpop : p.op = op := by
        have := hpk.hop
        rw [hps', hop] at this
        exact (Option.some.inj this).symm
      simp only [wdr, hkf] at hk
      split at hk
      · simp only [wdst, hg, wdex, hkf] at hk
        obtain ⟨vb, v, fc, hv, hfc, k1, k2⟩ := wop_fresh hfree hk
        have hn : φ (llen V) = none := hE.dom _ (by rw [llen_eq]; exact Nat.le_refl _)
        obtain ⟨ob, x, hrun, hx, hok⟩ := fresh_ok hio.cmp (fun x _ => hR.rd x) hv hfc hn p.we
        have hrun2 := hpk.run
        rw [hpop, hrun] at hrun2
        injection hrun2 with e1 e2
        injection e1 with e1
        have e3 := wpush_inj e2
        subst e1 e3
        rw [lapp_eq] at k1 k2
        obtain ⟨b1, b2⟩ := born_last (V := V) (vb := vb) (llen V) (llen_eq V)
        have hE' := hE.adopt (V' := V ++ [vb]) hn (by simp) b1 b2 (Nat.le_trans hW0 hpk.base) hpk.here hpk.free hok
        rw [putAll_take hpp hw.far]
        have hw' := hw.adopt hpp hps'
        have hdst := dstOk hio.dstN
        rw [hio.dst] at k2
        have hop2 : ∀ q ∈ pd, ops[q.s.j]? = some q.op := fun q hq => (hpo q hq).hop
        refine wdr_ok hns hW0 t fuel listed _ rps _ (φ.set (llen V) (p.we.heap.size, 0)) _ _ (V ++ [vb]) _ w hf hw' k2 (by rw [hpop]; exact ((hR.mono (Phi.le_set hn)).put hx hdst)) hE' (by rw [put_defers']; exact hd) ?_ k1 hps ?_ ?_ (Phi.le_trans hle (Phi.le_set hn)) ?_ hQ
        · intro r hr
          rcases hp r hr with h1 | ⟨q, hq, hpq⟩
          · exact .inl h1
          · refine .inr ⟨q, mem_keepPins.2 ⟨hq, ?_⟩, hpq.mono (Phi.le_set hn)⟩
            have hj : r.j = q.j := by obtain ⟨_, _, _, _, _, _, _, h5, _⟩ := hpq; exact h5
            have := hwt p hpp r hr
            rw [hps', waits_eq hop hio, hj] at this
            exact this
        · intro q hq
          obtain ⟨q1, q2⟩ := List.mem_filter.1 hq
          have hne : q.s.j ≠ p.s.j := by simpa using q2
          have hqo := hpo q q1
          have hfar := far_of hw.far q q1 p hpp hne
          obtain ⟨m1, m2⟩ := hw.mem q q1
          have hap := apFF hw.chk m1 g1 m2 (by rw [hs]; exact g2) hne hqo.hop hpk.hop
          have := hqo.put (fun cs b => hsel _ _ cs b hqo.hop) (d := p.op.dst) (v := p.x) hap.ba
          refine ⟨this.hop, this.run, this.base, this.here, fun i => ?_⟩
          unfold hset
          split
          · unfold single; rw [if_neg hfar.2.2]
          · exact this.free i
        · intro q hq r hr
          exact hwt q (List.mem_filter.1 hq).1 r hr
        · refine ⟨hF.size, hF.keep, fun i b o' hb => ?_, hF.sm⟩
          unfold hset at hb
          split at hb
          · unfold single at hb
            split at hb
            · rename_i e; rw [e]; exact .inr hpk.base
            · cases hb
          · exact hF.own i b o' hb
      · exact hk.elim
    have hnp : ∀ p ∈ pd, p.s.j ≠ s.j := fun p hp e => hpend ⟨p, hp, e⟩
    have hun := hw.listed (s := s) (by simp) hnp
    have hcnt := cnt_set hun
    obtain ⟨fuel, rfl⟩ : ∃ k, fuel = k + 1 := ⟨fuel - 1, by omega⟩
    have hrd := hw.ready hnp
    have hnext := hw.next hnp
    have hdst := dstOk hio.dstN
    have hop2 : ∀ q ∈ pd, ops[q.s.j]? = some q.op := fun q hq => (hpo q hq).hop
    have hap := hw.ap hnp hop2 hop
    have hev : execOp (putAll a pd).eval op = execOp a.eval op := eval_putAll (ops := ops) (fun cs b => hsel _ _ cs b hop) fun p hp => (hap p hp).ba
    have hwa : Region.wanted op (yielded ops (putAll a pd).tmps) = Region.wanted op (yielded ops a.tmps) := wanted_putAll fun p hp => (hap p hp).ba
    have hdn : ∀ p ∈ pd, waits ops p.s.j s.j = false := by
      intro p hp
      obtain ⟨m1, _⟩ := hw.mem p hp
      obtain ⟨opf, hopf, hiof⟩ := hw.io p.s m1
      rw [waits_eq hopf hiof, ← Bool.not_eq_true, List.contains_iff_mem]
      exact fun hm => hw.dn p hp _ hm s List.mem_cons_self rfl
    -- going on, behind a change of the world
    have go : ∀ {env0 : Env} {pins' : List Pin} {rps' : List RP} {v : VV} {V' : List VB} {φ' : Phi} {h' : Nat → Frag} {w' : World} {x : Value}, EnvR φ N env0 a → wdr o K pins' (put env0 op.dst v) V' t → φ.le φ' → Emb W0 φ' V' h' w' → Fr h h' w w' → den φ' v = some x →
        RPins φ' pins' rps' → pinsOk o pins' V' → (∀ r ∈ rps', r.S w') → (∀ p ∈ pd, ∀ r ∈ rps', waits ops p.s.j r.j = false) → wpAnyP P ops (QN R) fuel (listed.setIfInBounds s.j true) rps' ((putAll a pd).put op.dst x) w' := by
      intro env0 pins' rps' v V' φ' h' w' x hR0 hk' hle' hE' hF' hx hp' hpv' hps' hwt'
      rw [putAll_put fun p hp e he => (hap p hp).ne e he]
      refine wdr_ok hns hW0 t fuel _ pins' rps' pd φ' _ _ V' h' w' (by omega) hnext hk' ((hR0.mono hle').put hx hdst) hE' (by rw [put_defers']; exact hd) hp' hpv' hps' ?_ hwt' (Phi.le_trans hle hle') (hF.trans hF') hQ
      intro p hp
      exact ((hpo p hp).put (fun cs b => hsel _ _ cs b (hop2 p hp)) (hap p hp).ab).fr hF'
    have change : s.k ≠ .q → earlyB o env (llen V) (s.j :: jsOf t) t = true →
        ((Region.wanted op (yielded ops a.tmps) = true ∧ ∃ env0, EnvR φ N env0 a ∧ wop o s.io.op env0 V fun v V' => pinsOk o (keepPins s.io.after pins) V' ∧ wdr o K (keepPins s.io.after pins) (put env0 s.io.dst v) V' t) ∨
         (Region.wanted op (yielded ops a.tmps) = false ∧ ∃ env0, EnvR φ N env0 a ∧ wdr o K (keepPins s.io.after pins) (put env0 s.io.dst vundef) V t)) →
        wpAnyP P ops (QN R) (fuel + 1) listed rps (putAll a pd) w := by
      intro hkq hearly hg
      refine ⟨fun h0 => (by rw [h0] at hrd; cases hrd), fun r hr => ?_⟩
      rcases hw.only hnp hkq hr with rfl | ⟨f, hft, hFf, rfl, hnf, haf⟩
      · have hkeep : ∀ {φ' : Phi} {V' : List VB} {h' : Nat → Frag} {w' : World}, φ.le φ' → Emb W0 φ' V' h' w' → pinsOk o (keepPins s.io.after pins) V' →
            (∀ p ∈ rps, waits ops s.j p.j = false → p.S w') ∧ RPins φ' (keepPins s.io.after pins) (rps.filter fun p => !waits ops s.j p.j) := by
          intro φ' V' h' w' hle hE' hpo
          constructor
          · intro p hp' hwt
            rcases hp p hp' with h1 | ⟨q, hq, hpq⟩
            · exact h1 w'
            · have hj : p.j = q.j := by obtain ⟨_, _, _, _, _, _, _, h5, _⟩ := hpq; exact h5
              rw [waits_eq hop hio, hj] at hwt
              exact (hpq.mono hle).holds (pinsOk_mem hpo q (mem_keepPins.2 ⟨hq, hwt⟩)) hE'
          · intro p hp'
            obtain ⟨m1, m2⟩ := List.mem_filter.1 hp'
            rcases hp p m1 with h1 | ⟨q, hq, hpq⟩
            · exact .inl h1
            · have hj : p.j = q.j := by obtain ⟨_, _, _, _, _, _, _, h5, _⟩ := hpq; exact h5
              rw [waits_eq hop hio, hj] at m2
              exact .inr ⟨q, mem_keepPins.2 ⟨hq, by simpa using m2⟩, hpq.mono hle⟩
        have hwt' : ∀ p ∈ pd, ∀ r ∈ rps.filter (fun p => !waits ops s.j p.j), waits ops p.s.j r.j = false := fun p hp r hr => hwt p hp r (List.mem_filter.1 hr).1
        unfold wpOp
        simp only [hop]
        rw [hwa]
        rcases hg with ⟨hwant, env0, hR0, hk'⟩ | ⟨hwant, env0, hR0, hk'⟩
        · rw [if_pos hwant]
          refine .inl ?_
          have hdo := wop_does hio.cmp (fun x _ => hR0.rd x) hE hk'
          rw [← hev] at hdo
          refine hdo.wp ?_
          rintro v V' φ' h' w' x ⟨k1, k2⟩ hle' hE' hF' hx
          obtain ⟨g1, g2⟩ := hkeep hle' hE' k1
          rw [hio.dst] at k2
          refine ⟨g1, go hR0 k2 hle' hE' hF' hx g2 k1 ?_ hwt'⟩
          intro r hr'
          obtain ⟨m1, m2⟩ := List.mem_filter.1 hr'
          exact g1 r m1 (by simpa using m2)
        · rw [if_neg (by rw [hwant]; decide)]
          rw [hio.dst] at hk'
          have hpk : pinsOk o (keepPins s.io.after pins) V := pinsOk_keep hpv
          obtain ⟨g1, g2⟩ := hkeep (Phi.le_refl _) hE hpk
          exact ⟨fun p hp' _ => hps p hp', go hR0 hk' (Phi.le_refl _) hE (Fr.refl _ _) rfl g2 hpk (fun r hr' => hps r (List.mem_filter.1 hr').1) hwt'⟩
      · -- a block is made early
        obtain ⟨opf, hopf, hiof⟩ := hw.io f (List.mem_cons_of_mem _ hft)
        have hgf : opf.guard = none := by
          have : f.io.guard = none := by
            have hself : ∀ {l : List DS}, chk ops l = true → ∀ y ∈ l, isF y = true → y.io.guard = none := by
              intro l
              induction l with
              | nil => intro _ y hy; cases hy
              | cons z l ih =>
                intro hl y hy hF
                have c := chk_cons hl
                rcases List.mem_cons.1 hy with e | e
                · rw [e] at hF ⊢; exact (c.self hF).1
                · exact ih c.rest y e hF
            exact hself c.rest f hft hFf
          rcases hiof.gd with ⟨h1, _⟩ | ⟨_, _, _, _, _, _, h1⟩
          · exact h1
          · rw [this] at h1; cases h1
        obtain ⟨vb, v, fc, hv, hfc⟩ := earlyB_get hearly f hft hFf (fun q hq hm => by
          rcases List.mem_cons.1 hm with e | e
          · exact haf q hq s List.mem_cons_self e.symm
          · obtain ⟨y, hy, hj⟩ := mem_jsOf.1 e
            exact haf q hq y (List.mem_cons_of_mem _ hy) hj)
        have hn : φ (llen V) = none := hE.dom _ (by rw [llen_eq]; exact Nat.le_refl _)
        obtain ⟨ob, x, hrun, hx, hok⟩ := fresh_ok hiof.cmp (fun x _ => hR.rd x) hv hfc hn w
        have hapf := hw.apF (List.mem_cons_of_mem _ hft) hFf hnf hop2 hopf
        have hevf : execOp (putAll a pd).eval opf = execOp a.eval opf := eval_putAll (ops := ops) (fun cs b => hsel _ _ cs b hopf) fun p hp => (hapf p hp).ba
        obtain ⟨hE', hF'⟩ := hE.over ob
        have hS : ∀ r ∈ rps, r.S (wpush w ob) := by
          intro r hr
          rcases hp r hr with h1 | ⟨q, hq, hpq⟩
          · exact h1 _
          · exact hpq.holds (pinsOk_mem hpv q hq) hE'
        unfold wpOp
        simp only [hopf]
        rw [if_pos (by simp [Region.wanted, hgf])]
        refine .inl ?_
        unfold Oper.wp
        rw [hevf, hrun]
        simp only [Oper.upon]
        refine ⟨fun r hr _ => hS r hr, ?_⟩
        have hcntf := cnt_set (hw.listed (List.mem_cons_of_mem _ hft) hnf)
        have hltb : ∀ q ∈ pd, q.we.heap.size < w.heap.size := fun q hq => (Array.getElem?_eq_some_iff.1 (hpo q hq).here).1
        refine wdr_ok hns hW0 (s :: t) fuel (listed.setIfInBounds f.j true) pins (rps.filter fun p => !waits ops f.j p.j) (⟨f, opf, x, ob, w⟩ :: pd) φ env a V h (wpush w ob) (by omega) ?_ hk hR hE' hd (fun r hr => hp r (List.mem_filter.1 hr).1) hpv (fun r hr => hS r (List.mem_filter.1 hr).1) ?_ ?_ hle (hF.trans hF') hQ
        · exact hw.early (p := ⟨f, opf, x, ob, w⟩) (List.mem_cons_of_mem _ hft) hFf hnf haf fun q hq => ⟨fun e => hnf q hq e.symm, (hapf q hq).ne, fun e => by have := hltb q hq; simp only at e; omega⟩
        · intro p hpp
          rcases List.mem_cons.1 hpp with e | e
          · subst e
            refine ⟨hopf, hrun, hF.size, ?_, fun i => ?_⟩
            · simp only [wpush, Array.getElem?_push]; simp
            · cases hb : h i w.heap.size with
              | none => rfl
              | some o' => have := (Array.getElem?_eq_some_iff.1 (hE.sub i _ o' hb).2).1; omega
          · exact (hpo p e).fr hF'
        · intro p hpp r hr
          obtain ⟨m1, m2⟩ := List.mem_filter.1 hr
          rcases List.mem_cons.1 hpp with e | e
          · subst e; simpa using m2
          · exact hwt p e r m1
    cases hkind : s.k with
    | q =>
      simp only [wdr, hkind, wdst] at hk
      have hg := gd_cases hio hR hk
      have hfree : ∀ j oj, ops[j]? = some oj → j ≠ s.j → listed.getD j true = false → (∀ e ∈ oj.after, Region.binds .any e = true → e.on ≠ s.j) → op.apart ops oj = true := by
        intro j oj hoj hne hun hno
        obtain ⟨⟨s', hs', hj⟩, _⟩ := (hw.cov j).1 hun
        rcases List.mem_cons.1 hs' with h' | h'
        · subst h'; exact absurd hj.symm hne
        · subst hj
          obtain ⟨op', hop', hio'⟩ := hw.io s' (by simp [h'])
          rw [hoj] at hop'; cases hop'
          rcases c.q hkind s' h' with h2 | h2
          · exfalso
            rw [hio'.after] at h2
            obtain ⟨e, he', hon⟩ := List.mem_map.1 h2
            obtain ⟨h3, h4⟩ := List.mem_filter.1 he'
            exact hno e (by simpa using h3) h4 hon
          · exact apartB_spec h2 hop hoj
      have hwtS : ∀ S : World → Prop, ∀ p ∈ pd, ∀ r ∈ (⟨S, s.j⟩ :: rps : List RP), waits ops p.s.j r.j = false := by
        intro S p hpp r hr
        rcases List.mem_cons.1 hr with e | e
        · subst e; exact hdn p hpp
        · exact hwt p hpp r e
      have take : ∀ {env0 : Env} {v : VV} {x : Value} {pins' : List Pin} (S : World → Prop), EnvR φ N env0 a → YieldsIf P ops S op x a → S w → den φ v = some x → wdr o K pins' (put env0 op.dst v) V t → RPins φ pins' (⟨S, s.j⟩ :: rps) → pinsOk o pins' V →
          wpAnyP P ops (QN R) (fuel + 1) listed rps (putAll a pd) w := by
        intro env0 v x pins' S hR0 hy hS hx hk' hp' hpv'
        refine wpAnyP_first hop hsel (fun _ _ _ h => h) fuel listed rps (putAll a pd) w hfree hrd (hy.of_same hev hwa) hS hps ?_
        refine go hR0 hk' (Phi.le_refl _) hE (Fr.refl _ _) hx hp' hpv' ?_ (hwtS S)
        intro r hr
        rcases List.mem_cons.1 hr with h' | h'
        · subst h'; exact hS
        · exact hps r h'
      have ptriv : ∀ {pins' : List Pin}, (∀ q ∈ pins, q ∈ pins') → RPins φ pins' (⟨fun _ => True, s.j⟩ :: rps) := by
        intro pins' hsub r hr
        rcases List.mem_cons.1 hr with h' | h'
        · subst h'; exact .inl fun _ => trivial
        · exact (hp r h').imp id fun ⟨q, hq, hpq⟩ => ⟨q, hsub q hq, hpq⟩
      rcases hg with ⟨hwant, env0, hR0, hk'⟩ | ⟨hwant, env0, hR0, hk'⟩
      · simp only [wdex, hkind] at hk'
        have pure : ∀ (v : VV) (c : Option Bool), pval o s.io.op env0 = some (v, c) → (c = none ∨ c = some true) → wdr o K pins (put env0 s.io.dst v) V t → wpAnyP P ops (QN R) (fuel + 1) listed rps (putAll a pd) w := by
          intro v c hv hb hk2
          obtain ⟨x, hx, hrun⟩ := pval_ok hio.cmp (fun x _ => hR0.rd x) hv hb
          rw [hio.dst] at hk2
          exact take (fun _ => True) hR0 (.inl ⟨hwant, fun w' _ => hrun w'⟩) trivial hx hk2 (ptriv fun q hq => hq) hpv
        split at hk'
        · rename_i v hv; exact pure v none hv (.inl rfl) hk'
        · rename_i v b hv; exact pure v (some b) hv (.inr (by rw [hk'.1])) hk'.2
        · split at hk'
          · rename_i v hv
            split at hk'
            · rename_i pin hpin
              obtain ⟨n, agg, r, hop', hld⟩ := lval_ldAt hv
              rw [hop'] at hpin
              simp only [mkPin] at hpin
              cases hpin
              rw [hio.dst] at hk'
              obtain ⟨b', off', lv', rs', g1, g2, g3, g4, g5⟩ := ldAt_holds hld hE
              obtain ⟨x, hx, hrun⟩ := ld_run (hop' ▸ hio.cmp) (fun x _ => hR0.rd x) g1 g2 g3 g5
              refine take (fun w' => holdsAt w' b' off' rs') hR0 (.inl ⟨hwant, fun w' hw' => hrun w' hw'⟩) g4 hx hk' ?_ ⟨hld, hpv⟩
              intro r' hr'
              rcases List.mem_cons.1 hr' with h' | h'
              · subst h'
                exact .inr ⟨_, List.mem_cons_self, b', off', lv', rs', g1, g2, g3, rfl, fun w' hw' => hw'⟩
              · exact (hp r' h').imp id fun ⟨q, hq, hpq⟩ => ⟨q, List.mem_cons_of_mem _ hq, hpq⟩
            · exact hk'.elim
          · exact hk'.elim
      · simp only [wdsk, hkind] at hk'
        rw [hio.dst] at hk'
        exact take (fun _ => True) hR0 (.inr ⟨hwant, rfl⟩) trivial rfl hk' (ptriv fun q hq => hq) hpv
    | e =>
      simp only [wdr, hkind] at hk
      split at hk
      · rename_i hearly
        simp only [wdst] at hk
        have hg := gd_cases hio hR hk
        simp only [wdex, wdsk, hkind] at hg
        exact change (by rw [hkind]; intro h; cases h) hearly hg
      · exact hk.elim
    | f =>
      simp only [wdr, hkind] at hk
      split at hk
      · rename_i hearly
        simp only [wdst] at hk
        have hg := gd_cases hio hR hk
        simp only [wdex, wdsk, hkind] at hg
        exact change (by rw [hkind]; intro h; cases h) hearly hg
      · exact hk.elim
  termination_by t fuel => fuel + t.length

theorem draws_ok (hmix : P.follows .mixedOrders = true) : DrawsOk P W0 o cand N := by
  intro id ops l K φ env a V h w Q hc hs hk hR hE hd hQ
  obtain ⟨hlen, hget⟩ := compOps_get hc
  simp only [schedOk, Bool.and_eq_true, decide_eq_true_eq, beq_iff_eq, List.all_eq_true, List.mem_range, List.any_eq_true] at hs
  obtain ⟨⟨⟨⟨⟨h2, h3⟩, h4⟩, h5⟩, h6⟩, h7⟩ := hs
  have hsz : l.length = ops.size := by rw [hlen]; simp
  have hmem : ∀ s ∈ order l, l[s.j]? = some s.io := fun s hs' => by
    obtain ⟨s0, g1, g2, g3⟩ := mem_markF (mem_sched hs')
    have := (mem_number g1).2
    rw [g2, g3] at this
    simpa using this
  have hwf : WFs P cand N ops (order l) [] (Array.replicate ops.size false) := by
    refine ⟨h2, fun i => ?_, by simp, fun s hs' => ?_, fun s hs' p hp => ?_, fun p hp => (by cases hp), fun p hp => (by cases hp), List.Pairwise.nil⟩
    · constructor
      · intro hi
        have hlt : i < ops.size := by
          rcases Nat.lt_or_ge i ops.size with h | h
          · exact h
          · simp [Array.getElem?_eq_none (show (Array.replicate ops.size false).size ≤ i by simpa using h)] at hi
        obtain ⟨s, hs', hj⟩ := h5 i (by omega)
        exact ⟨⟨s, hs', hj⟩, fun p hp => by cases hp⟩
      · rintro ⟨⟨s, hs', rfl⟩, _⟩
        have : s.j < ops.size := by rw [← hsz]; exact h4 s hs'
        simp [this]
    · have hj : s.j < l.length := h4 s hs'
      have hj2 : s.j < ops.toList.length := by rw [← hlen]; exact hj
      obtain ⟨io, g1, g2⟩ := hget s.j ops.toList[s.j] (List.getElem?_eq_getElem hj2)
      rw [hmem s hs'] at g1
      cases g1
      exact ⟨_, by rw [← Array.getElem?_toList]; exact List.getElem?_eq_getElem hj2, g2⟩
    · rw [← hsz]
      exact h7 s.io (List.mem_of_getElem? (hmem s hs')) p hp
  have hcnt : ∀ n, cntF (List.replicate n false) = n := by
    intro n
    induction n with
    | zero => rfl
    | succ n ih => simp only [List.replicate_succ, cntF, ih]; simp; omega
  refine wp_mono (wp_region_any hmix (wpAny_of_P _ _ _ _ _ (wdr_ok (R := PostV W0 N φ h w K) (φ0 := φ) (h0 := h) h6 hE.size (order l) ops.size _ [] [] [] φ env a V h _ (by simp [cnt, hcnt]) hwf hk hR (hE.heap rfl) hd (fun r hr => by cases hr) trivial (fun r hr => by cases hr) (fun r hr => by cases hr) (fun r hr => by cases hr) (Phi.le_refl _) ⟨Nat.le_refl _, fun _ _ _ => rfl, fun i b o' hb => .inl ⟨i, o', hb⟩, ⟨rfl, rfl, rfl⟩⟩ (fun _ _ hp => hp)))) ?_
  · intro e a' w' hq
    cases e <;> first | exact hQ a' w' hq | exact hq.elim
end
end
end Go.SL
