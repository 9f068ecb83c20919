/- A symbolic executor over the model: how a world that a virtual heap lies in is changed. -/
import Derived.Test.YtglghdjpkecngaaGreatSLg
namespace Go.SL

def Phi.set (φ : Phi) (n : Nat) (p : Nat × Nat) : Phi := fun i => if i = n then some p else φ i
def hset (h : Nat → Frag) (n : Nat) (f : Frag) : Nat → Frag := fun i => if i = n then f else h i
def single (b : Nat) (o : Obj) : Frag := fun x => if x = b then some o else none

theorem Phi.le_set {φ : Phi} {n : Nat} {p : Nat × Nat} (h : φ n = none) : φ.le (φ.set n p) := by
  intro i x hx
  unfold Phi.set
  split
  · rename_i e; subst e; rw [h] at hx; cases hx
  · exact hx
theorem Phi.set_self (φ : Phi) (n : Nat) (p : Nat × Nat) : (φ.set n p) n = some p := by simp [Phi.set]

section
variable {P : Program} {W0 : World} {φ : Phi} {V : List VB} {h : Nat → Frag} {w : World}

/-- The world with one block more. -/
def wpush (w : World) (ob : Obj) : World := { w with heap := w.heap.push ob }

theorem Emb.born {n : Nat} {ob : Obj} {vb : VB} {V' : List VB} (hE : Emb W0 φ V h w) (hn : φ n = none) (hlen : V.length ≤ V'.length) (h1 : V'[n]? = some vb) (h2 : ∀ i, i ≠ n → V'[i]? = V[i]?)
    (hok : vb.ok W0 (φ.set n (w.heap.size, 0)) (single w.heap.size ob) n) :
    Emb W0 (φ.set n (w.heap.size, 0)) V' (hset h n (single w.heap.size ob)) (wpush w ob) ∧ Fr h (hset h n (single w.heap.size ob)) w (wpush w ob) := by
  have hlt : ∀ i b o', h i b = some o' → b < w.heap.size := fun i b o' hb => (Array.getElem?_eq_some_iff.1 (hE.sub i b o' hb).2).1
  have hget : ∀ b, b < w.heap.size → (wpush w ob).heap[b]? = w.heap[b]? := fun b hb => by
    simp only [wpush, Array.getElem?_push]; rw [if_neg (by omega)]
  refine ⟨⟨?_, ?_, ?_, ?_, ?_, ?_⟩, ⟨?_, ?_, ?_, ⟨rfl, rfl, rfl⟩⟩⟩
  · simp [wpush]; have := hE.size; omega
  · intro b hb; rw [hget b (Nat.lt_of_lt_of_le hb hE.size)]; exact hE.old b hb
  · intro i b o' hb
    unfold hset at hb
    split at hb
    · unfold single at hb
      split at hb
      · rename_i e; subst e; cases hb; exact ⟨hE.size, by simp only [wpush, Array.getElem?_push]; simp⟩
      · cases hb
    · obtain ⟨g1, g2⟩ := hE.sub i b o' hb
      exact ⟨g1, by rw [hget b (hlt i b o' hb)]; exact g2⟩
  · intro i j b hij
    unfold hset
    by_cases e1 : i = n
    · by_cases e2 : j = n
      · omega
      · rw [if_pos e1, if_neg e2]
        unfold single
        split
        · rename_i e; right
          cases hb : h j b with
          | none => rfl
          | some o' => have := hlt j b o' hb; omega
        · left; rfl
    · by_cases e2 : j = n
      · rw [if_neg e1, if_pos e2]
        unfold single
        split
        · rename_i e; left
          cases hb : h i b with
          | none => rfl
          | some o' => have := hlt i b o' hb; omega
        · right; rfl
      · rw [if_neg e1, if_neg e2]; exact hE.disj i j b hij
  · intro i hi
    have hne : i ≠ n := by
      rintro rfl
      rw [List.getElem?_eq_none hi] at h1; cases h1
    simp only [Phi.set, if_neg hne]
    exact hE.dom i (by omega)
  · intro i vb' hi
    by_cases e : i = n
    · subst e
      rw [h1] at hi; cases hi
      simpa [hset] using hok
    · rw [h2 i e] at hi
      have := hE.sat i vb' hi
      simp only [hset, if_neg e]
      exact VB.ok_mono (Phi.le_set hn) this (by intro h0; simp [Phi.set, e, h0])
  · simp [wpush]
  · intro x hx _; exact hget x hx
  · intro i b o' hb
    unfold hset at hb
    split at hb
    · unfold single at hb
      split at hb
      · rename_i e; right; omega
      · cases hb
    · exact .inl ⟨i, o', hb⟩

theorem Emb.obj {i b : Nat} {old new : Obj} {vb' : VB} {w' : World} (hE : Emb W0 φ V h w) (hi : i < V.length) (hb : h i b = some old)
    (hok : vb'.ok W0 φ (fun x => if x = b then some new else h i x) i) (hw : w'.heap = w.heap.setIfInBounds b new) (hs : Sm w w') :
    Emb W0 φ (V.set i vb') (hset h i (fun x => if x = b then some new else h i x)) w' ∧
      Fr h (hset h i (fun x => if x = b then some new else h i x)) w w' := by
  obtain ⟨hb1, hb2⟩ := hE.sub i b _ hb
  have hlt : b < w.heap.size := (Array.getElem?_eq_some_iff.1 hb2).1
  have hself : w'.heap[b]? = some new := by rw [hw]; simp [hlt]
  have hoth : ∀ x, x ≠ b → w'.heap[x]? = w.heap[x]? := fun x hx => by rw [hw, Array.getElem?_setIfInBounds_ne (Ne.symm hx)]
  have hsz : w'.heap.size = w.heap.size := by rw [hw]; simp
  refine ⟨⟨?_, ?_, ?_, ?_, ?_, ?_⟩, ⟨?_, ?_, ?_, hs⟩⟩
  · rw [hsz]; exact hE.size
  · intro x hx; rw [hoth x (by omega)]; exact hE.old x hx
  · intro j x o' hx
    unfold hset at hx
    split at hx
    · dsimp only at hx
      split at hx
      · rename_i e; subst e; cases hx; exact ⟨hb1, hself⟩
      · rename_i e; obtain ⟨g1, g2⟩ := hE.sub i x o' hx; exact ⟨g1, by rw [hoth x e]; exact g2⟩
    · rename_i hj
      obtain ⟨g1, g2⟩ := hE.sub j x o' hx
      have hne : x ≠ b := by
        rintro rfl
        rcases hE.disj j i x hj with h0 | h0
        · rw [h0] at hx; cases hx
        · rw [h0] at hb; cases hb
      exact ⟨g1, by rw [hoth x hne]; exact g2⟩
  · intro j k x hjk
    unfold hset
    have key : ∀ m, m ≠ i → h m x = none ∨ (if x = b then some new else h i x) = none := by
      intro m hm
      split
      · rename_i e; subst e
        rcases hE.disj m i x hm with h0 | h0
        · exact .inl h0
        · rw [h0] at hb; cases hb
      · exact hE.disj m i x hm
    by_cases e1 : j = i
    · by_cases e2 : k = i
      · omega
      · rw [if_pos e1, if_neg e2]; exact (key k e2).symm
    · by_cases e2 : k = i
      · rw [if_neg e1, if_pos e2]; exact key j e1
      · rw [if_neg e1, if_neg e2]; exact hE.disj j k x hjk
  · intro j hj; exact hE.dom j (by simpa using hj)
  · intro j vb hj
    by_cases e : j = i
    · subst e
      rw [List.getElem?_set_self hi] at hj; cases hj
      simpa [hset] using hok
    · rw [List.getElem?_set_ne (Ne.symm e)] at hj
      simp only [hset, if_neg e]
      exact hE.sat j vb hj
  · rw [hsz]; exact Nat.le_refl _
  · intro x hx hn
    have : x ≠ b := by rintro rfl; rw [hn i] at hb; cases hb
    exact hoth x this
  · intro j x o' hx
    left
    unfold hset at hx
    split at hx
    · dsimp only at hx
      split at hx
      · rename_i e; subst e; exact ⟨i, _, hb⟩
      · exact ⟨i, o', hx⟩
    · exact ⟨j, o', hx⟩

theorem born_last {vb : VB} (n : Nat) (hn : n = V.length) : (V ++ [vb])[n]? = some vb ∧ ∀ i, i ≠ n → (V ++ [vb])[i]? = V[i]? := by
  subst hn
  refine ⟨by simp, fun i hi => ?_⟩
  by_cases h : i < V.length
  · rw [List.getElem?_append_left h]
  · rw [List.getElem?_eq_none (by simp; omega), List.getElem?_eq_none (by omega)]

/-- An entry's own block gets another content. -/
theorem Emb.upd {i b : Nat} {old new : Array Value} {T : TypeId} {fr : Nat × Nat} {vb' : VB} (hE : Emb W0 φ V h w) (hi : i < V.length) (hb : h i b = some (.cells old T fr))
    (hok : vb'.ok W0 φ (fun x => if x = b then some (.cells new T fr) else h i x) i) :
    Emb W0 φ (V.set i vb') (hset h i (fun x => if x = b then some (.cells new T fr) else h i x)) (w.setRow b new) ∧
      Fr h (hset h i (fun x => if x = b then some (.cells new T fr) else h i x)) w (w.setRow b new) := by
  obtain ⟨hb1, hb2⟩ := hE.sub i b _ hb
  have hself : (w.setRow b new).heap[b]? = some (.cells new T fr) := setRow_heap w b old new T fr hb2
  have hoth : ∀ x, x ≠ b → (w.setRow b new).heap[x]? = w.heap[x]? := fun x hx => setRow_other w b x new hx
  refine ⟨⟨?_, ?_, ?_, ?_, ?_, ?_⟩, ⟨?_, ?_, ?_, ⟨setRow_os .., setRow_tape .., setRow_output ..⟩⟩⟩
  · rw [setRow_size]; exact hE.size
  · intro x hx; rw [hoth x (by omega)]; exact hE.old x hx
  · intro j x o' hx
    unfold hset at hx
    split at hx
    · dsimp only at hx
      split at hx
      · rename_i e; subst e; cases hx; exact ⟨hb1, hself⟩
      · rename_i e; obtain ⟨g1, g2⟩ := hE.sub i x o' hx; exact ⟨g1, by rw [hoth x e]; exact g2⟩
    · rename_i hj
      obtain ⟨g1, g2⟩ := hE.sub j x o' hx
      have hne : x ≠ b := by
        rintro rfl
        rcases hE.disj j i x hj with h0 | h0
        · rw [h0] at hx; cases hx
        · rw [h0] at hb; cases hb
      exact ⟨g1, by rw [hoth x hne]; exact g2⟩
  · intro j k x hjk
    unfold hset
    have key : ∀ m, m ≠ i → h m x = none ∨ (if x = b then some (Obj.cells new T fr) else h i x) = none := by
      intro m hm
      split
      · rename_i e; subst e
        rcases hE.disj m i x hm with h0 | h0
        · exact .inl h0
        · rw [h0] at hb; cases hb
      · exact hE.disj m i x hm
    by_cases e1 : j = i
    · by_cases e2 : k = i
      · omega
      · rw [if_pos e1, if_neg e2]; exact (key k e2).symm
    · by_cases e2 : k = i
      · rw [if_neg e1, if_pos e2]; exact key j e1
      · rw [if_neg e1, if_neg e2]; exact hE.disj j k x hjk
  · intro j hj; exact hE.dom j (by simpa using hj)
  · intro j vb hj
    by_cases e : j = i
    · subst e
      rw [List.getElem?_set_self hi] at hj; cases hj
      simpa [hset] using hok
    · rw [List.getElem?_set_ne (Ne.symm e)] at hj
      simp only [hset, if_neg e]
      exact hE.sat j vb hj
  · rw [setRow_size]; exact Nat.le_refl _
  · intro x hx hn
    have : x ≠ b := by rintro rfl; rw [hn i] at hb; cases hb
    exact hoth x this
  · intro j x o' hx
    left
    unfold hset at hx
    split at hx
    · dsimp only at hx
      split at hx
      · rename_i e; subst e; exact ⟨i, _, hb⟩
      · exact ⟨i, o', hx⟩
    · exact ⟨j, o', hx⟩

theorem Emb.forget {i : Nat} (hE : Emb W0 φ V h w) : Emb W0 φ (V.set i .emp) h w :=
  ⟨hE.size, hE.old, hE.sub, hE.disj, fun j hj => hE.dom j (by simpa using hj), fun j vb hj => by
    by_cases e : i = j
    · subst e
      by_cases hlt : i < V.length
      · rw [List.getElem?_set_self hlt] at hj; cases hj; trivial
      · rw [List.getElem?_eq_none (by simp; omega)] at hj; cases hj
    · rw [List.getElem?_set_ne e] at hj; exact hE.sat j vb hj⟩

/-- A number more. -/
theorem Emb.num (C : Nat) (hE : Emb W0 φ V h w) : Emb W0 (φ.set V.length (C, 0)) (V ++ [.num]) h w := by
  have hnone : φ V.length = none := hE.dom _ (Nat.le_refl _)
  have hle := Phi.le_set (p := (C, 0)) hnone
  obtain ⟨hl1, hl2⟩ := born_last (V := V) (vb := .num) V.length rfl
  refine ⟨hE.size, hE.old, hE.sub, hE.disj, fun j hj => ?_, fun j vb hj => ?_⟩
  · have : j ≠ V.length := by rintro rfl; simp at hj; omega
    simp only [Phi.set, if_neg this]
    exact hE.dom j (by simp at hj; omega)
  · by_cases e : j = V.length
    · subst e
      rw [hl1] at hj; cases hj
      exact ⟨C, Phi.set_self ..⟩
    · rw [hl2 j e] at hj
      refine VB.ok_mono hle (hE.sat j vb hj) fun hn => ?_
      simp only [Phi.set, if_neg e]
      exact hn

/-- A row takes another number. -/
theorem Emb.shift {i n : Nat} {e : Nat} {tot : Cap} {xs : List (List VV)} {p : Nat × Nat} (hE : Emb W0 φ V h w) (hi : V[i]? = some (.arr e xs tot)) (hp : φ i = some p) (hn : n = V.length) :
    Emb W0 (φ.set n p) (V.set i .emp ++ [.arr e xs tot]) (hset (hset h i (fun _ => none)) n (h i)) w ∧ Fr h (hset (hset h i (fun _ => none)) n (h i)) w w := by
  have hnone : φ n = none := hE.dom n (by omega)
  have hlt : i < V.length := (List.getElem?_eq_some_iff.1 hi).1
  have hle := Phi.le_set (p := p) hnone
  obtain ⟨hl1, hl2⟩ := born_last (V := V.set i .emp) (vb := .arr e xs tot) n (by simpa using hn)
  have own : ∀ j b o', hset (hset h i (fun _ => none)) n (h i) j b = some o' → ∃ k, h k b = some o' ∧ (j = n → k = i) ∧ (j ≠ n → k = j ∧ j ≠ i) := by
    intro j b o' hb
    unfold hset at hb
    split at hb
    · rename_i ej; exact ⟨i, hb, fun _ => rfl, fun h => absurd ej h⟩
    · split at hb
      · cases hb
      · rename_i h1 h2; exact ⟨j, hb, fun h => absurd h h1, fun _ => ⟨rfl, h2⟩⟩
  refine ⟨⟨hE.size, hE.old, ?_, ?_, ?_, ?_⟩, ⟨Nat.le_refl _, fun _ _ _ => rfl, ?_, Sm.refl w⟩⟩
  · intro j b o' hb
    obtain ⟨k, hk, _⟩ := own j b o' hb
    exact hE.sub k b o' hk
  · intro j k b hjk
    cases hb : hset (hset h i (fun _ => none)) n (h i) j b with
    | none => exact .inl rfl
    | some o1 =>
      right
      cases hc : hset (hset h i (fun _ => none)) n (h i) k b with
      | none => rfl
      | some o2 =>
        obtain ⟨j', hj1, hj2, hj3⟩ := own j b o1 hb
        obtain ⟨k', hk1, hk2, hk3⟩ := own k b o2 hc
        have hne : j' ≠ k' := by
          by_cases e1 : j = n
          · have e2 : k ≠ n := by omega
            rw [hj2 e1, (hk3 e2).1]; exact Ne.symm (hk3 e2).2
          · by_cases e2 : k = n
            · rw [hk2 e2, (hj3 e1).1]; exact (hj3 e1).2
            · rw [(hj3 e1).1, (hk3 e2).1]; exact hjk
        rcases hE.disj j' k' b hne with h0 | h0
        · rw [h0] at hj1; cases hj1
        · rw [h0] at hk1; cases hk1
  · intro j hj
    have : j ≠ n := by simp at hj; omega
    simp only [Phi.set, if_neg this]
    exact hE.dom j (by simp at hj; omega)
  · intro j vb hj
    by_cases e1 : j = n
    · subst e1
      rw [hl1] at hj; cases hj
      obtain ⟨b, l, rest, T, g1, g2, g3, g4, g5⟩ := hE.sat i _ hi
      rw [hp] at g1; cases g1
      exact ⟨b, l, rest, T, Phi.set_self .., denL_mono hle _ _ g2, by simpa [hset] using g3, Cap.tot_mono hle g4, g5⟩
    · rw [hl2 j e1] at hj
      by_cases e2 : i = j
      · subst e2
        rw [List.getElem?_set_self hlt] at hj; cases hj; trivial
      · rw [List.getElem?_set_ne e2] at hj
        have := hE.sat j vb hj
        have e3 : ¬ j = i := fun h => e2 h.symm
        simp only [hset, if_neg e1, if_neg e3]
        exact VB.ok_mono hle this (by intro h0; simp [Phi.set, e1, h0])
  · intro j b o' hb
    obtain ⟨k, hk, _⟩ := own j b o' hb
    exact .inl ⟨k, o', hk⟩

theorem Emb.heap {w' : World} (hE : Emb W0 φ V h w) (hw : w'.heap = w.heap) : Emb W0 φ V h w' :=
  ⟨by rw [hw]; exact hE.size, by rw [hw]; exact hE.old, by rw [hw]; exact hE.sub, hE.disj, hE.dom, hE.sat⟩
theorem Fr.heap {h' : Nat → Frag} {w1 w2 w2' : World} (hF : Fr h h' w1 w2) (hw : w2'.heap = w2.heap) (hs : Sm w2 w2') : Fr h h' w1 w2' :=
  ⟨by rw [hw]; exact hF.size, by rw [hw]; exact hF.keep, hF.own, hF.sm.trans hs⟩
theorem Fr.heapl {h' : Nat → Frag} {w1 w1' w2 : World} (hF : Fr h h' w1 w2) (hw : w1'.heap = w1.heap) (hs : Sm w1' w1) : Fr h h' w1' w2 :=
  ⟨by rw [hw]; exact hF.size, by rw [hw]; exact hF.keep, by rw [hw]; exact hF.own, hs.trans hF.sm⟩
end

section
variable {P : Program} {W0 : World} {RE : (Env → List VB → Prop) → Env → List VB → Prop} {o : Ops (Ev P W0) RE} {cand : List TypeId} {N : Nat} {φ : Phi} {env : Env} {a : Act} {V : List VB} {h : Nat → Frag} {w : World}

theorem flatten_set {xs : List (List VV)} {e : Nat} : ∀ {j : Nat} {cs cs' : List VV}, (∀ x ∈ xs, x.length = e) → xs[j]? = some cs → cs'.length = e →
    (xs.set j cs').flatten = xs.flatten.take (j * e) ++ cs' ++ xs.flatten.drop (j * e + e) := by
  induction xs with
  | nil => intro j cs cs' _ h; simp at h
  | cons x xs ih =>
    intro j cs cs' hl hj hc
    have hx := hl x (by simp)
    cases j with
    | zero => simp [← hx]
    | succ j =>
      have := ih (fun y hy => hl y (by simp [hy])) (by simpa using hj) hc
      rw [List.set_cons_succ, List.flatten_cons, this, List.flatten_cons]
      have e1 : (j + 1) * e = x.length + j * e := by rw [Nat.succ_mul, hx]; omega
      rw [e1, Nat.add_assoc, List.take_length_add_append, List.drop_length_add_append]
      simp [List.append_assoc]

/-- A store, carried out. -/
theorem store_run {t : TypeId} {n b off : Nat} (hn : sizeB P t = some n) {x : Value} {v : VV} (hx : den φ v = some x) (hlen : v.cells.length = n) (h1 : allOne v.cells = true)
    {cur : Array Value} {T : TypeId} (hb : w.heap[b]? = some (.cells cur T (0, 0))) (hfit : off + n ≤ cur.size) :
    (Instr.storeAt t (.pointer (some ⟨b, off, none⟩)) x).run P w = .ok () (w.setRow b (cur.toList.take off ++ x.cells.toList ++ cur.toList.drop (off + n)).toArray) := by
  have hc := cells_den hx
  have hl := denL_length hc
  have hs : x.cells.size = n := by rw [← hlen, ← hl]; simp
  have hone := allOne_den hc h1
  have := run_storeCells_at (P := P) b off T x.cells.toList 0 cur w hb (by simp [hs]; exact hfit) hone
  simp only [Instr.storeAt, Instr.sureAddr, storeVar, Sem.run_bind, Sem.run_pure, Result.andThen_ok, run_sizeOf' hn, Sem.run_ite, if_neg (show ¬ x.cells.size ≠ n by simp [hs])]
  rw [this]
  simp [hs]

theorem st_ok {ty : TypeId} {dst : Option Tmp} {pos : String} {after : Array Edge} {gd : Option (Nat × Bool)} {t : TypeId} {x y : Operand} {n : Nat} {rx ry : Rd}
    (hn : sizeB P t = some n) (hx : den φ (rx.ev env) = some (a.eval x)) (hy : den φ (ry.ev env) = some (a.eval y)) (hE : Emb W0 φ V h w) {K : VV → List VB → Prop}
    (hk : weff o (.st n rx ry) env V K) :
    ∃ V' h' w', K vundef V' ∧ Emb W0 φ V' h' w' ∧ Fr h h' w w' ∧ (execOp a.eval ⟨dst, .store t x y, ty, pos, after, gd⟩).run P w = .ok .skip w' := by
  simp only [weff] at hk
  split at hk
  · rename_i hlen
    have hlen' : (ry.ev env).cells.length = n := by rw [llen_eq] at hlen; exact Nat.eq_of_beq_eq_true hlen
    split at hk
    · rename_i hone
      have hyc := cells_den hy
      have hyl := denL_length hyc
      have hys : (a.eval y).cells.size = n := by rw [← hlen', ← hyl]; simp
      split at hk
      · rename_i i off hev
        rw [hev] at hx
        obtain ⟨b', s, hφ, hex⟩ := den_ptr.1 hx
        split at hk
        · rename_i cs hV
          split at hk
          · rename_i cs' hw
            rw [lget_eq] at hV
            rw [lset_eq] at hk
            obtain ⟨b, l, T, hφ', hl, hf⟩ := hE.sat i _ hV
            rw [hφ'] at hφ; injection hφ with hφ; injection hφ with hbb hss; subst hbb; subst hss
            obtain ⟨hle, rfl⟩ := wrn_spec hw
            have hcl := denL_length hl
            rw [hlen'] at hle
            have hrun := store_run (P := P) (w := w) (off := 0 + off) hn hy hlen' hone (hE.sub i b _ hf).2 (by simp; omega)
            have hlt : i < V.length := (List.getElem?_eq_some_iff.1 hV).1
            have hu := hE.upd (new := (l.take (0 + off) ++ (a.eval y).cells.toList ++ l.drop (0 + off + n)).toArray) (vb' := .cells (cs.take off ++ (ry.ev env).cells ++ cs.drop (off + (ry.ev env).cells.length))) hlt hf
              ⟨b, _, T, hφ', denL_append.2 ⟨_, _, denL_append.2 ⟨_, _, denL_take off hl, hyc, rfl⟩, denL_drop _ hl, rfl⟩, by simp [hlen']⟩
            refine ⟨_, _, _, hk, hu.1, hu.2, ?_⟩
            simp only [execOp, hex, Sem.run_bind]
            rw [hrun]
            simp
          · exact hk.elim
        · exact hk.elim
      · rename_i i e j off hev
        rw [hev] at hx
        obtain ⟨b', s, hφ, hex⟩ := den_elt.1 hx
        split at hk
        · rename_i e' xs tot hV
          split at hk
          · rename_i hbe
            have hee : e = e' := Nat.eq_of_beq_eq_true hbe
            subst hee
            split at hk
            · rename_i cs hget
              split at hk
              · rename_i cs' hw
                rw [lget_eq] at hV
                rw [lset_eq, o.set_eq] at hk
                rw [o.get_eq] at hget
                obtain ⟨b, l, rest, T, hφ', hl, hf, htot, hall⟩ := hE.sat i _ hV
                rw [hφ'] at hφ; injection hφ with hφ; injection hφ with hbb hss; subst hbb; subst hss
                obtain ⟨hle, rfl⟩ := wrn_spec hw
                have hcl := denL_length hl
                have hce : cs.length = e := hall cs (List.mem_of_getElem? hget)
                rw [hlen'] at hle
                have hje : j * e + e ≤ xs.flatten.length := by
                  have hj : j < xs.length := (List.getElem?_eq_some_iff.1 hget).1
                  have hfl : xs.flatten.length = xs.length * e := by
                    clear hget hV hl hcl hf htot hj hk
                    induction xs with
                    | nil => simp
                    | cons x xs ih => rw [List.flatten_cons, List.length_append, ih (fun y hy => hall y (by simp [hy])), hall x (by simp), List.length_cons, Nat.succ_mul]; omega
                  rw [hfl]
                  calc j * e + e = (j + 1) * e := by rw [Nat.succ_mul]
                    _ ≤ xs.length * e := Nat.mul_le_mul_right e hj
                have hcs : cs = (xs.flatten.drop (j * e)).take e := by
                  apply List.ext_getElem?
                  intro k
                  rw [List.getElem?_take, List.getElem?_drop]
                  by_cases hk : k < e
                  · rw [if_pos hk]
                    obtain ⟨u, hu⟩ : ∃ u, cs[k]? = some u := ⟨cs[k]'(by omega), by simp [hce, hk]⟩
                    rw [hu, flatten_get hall hget k u hu]
                  · rw [if_neg hk]; exact List.getElem?_eq_none (by omega)
                have hcsd : denL φ cs = some ((l.drop (j * e)).take e) := by rw [hcs]; exact denL_take e (denL_drop _ hl)
                have hrun := store_run (P := P) (w := w) (off := 0 + (j * e + off)) hn hy hlen' hone (hE.sub i b _ hf).2 (by simp; omega)
                have hlt : i < V.length := (List.getElem?_eq_some_iff.1 hV).1
                -- the new row
                have hnew : cs.take off ++ (ry.ev env).cells ++ cs.drop (off + (ry.ev env).cells.length) = cs.take off ++ (ry.ev env).cells ++ cs.drop (off + n) := by rw [hlen']
                have hnl : (cs.take off ++ (ry.ev env).cells ++ cs.drop (off + n)).length = e := by simp [hlen', hce]; omega
                have hfs := flatten_set (cs' := cs.take off ++ (ry.ev env).cells ++ cs.drop (off + n)) hall hget hnl
                have hden : denL φ (xs.set j (cs.take off ++ (ry.ev env).cells ++ cs.drop (off + n))).flatten = some (l.take (j * e) ++ (((l.drop (j * e)).take e).take off ++ (a.eval y).cells.toList ++ ((l.drop (j * e)).take e).drop (off + n)) ++ l.drop (j * e + e)) := by
                  rw [hfs]
                  exact denL_append.2 ⟨_, _, denL_append.2 ⟨_, _, denL_take _ hl, denL_append.2 ⟨_, _, denL_append.2 ⟨_, _, denL_take off hcsd, hyc, rfl⟩, denL_drop _ hcsd, rfl⟩, rfl⟩, denL_drop _ hl, rfl⟩
                have hsame : l.take (j * e) ++ (((l.drop (j * e)).take e).take off ++ (a.eval y).cells.toList ++ ((l.drop (j * e)).take e).drop (off + n)) ++ l.drop (j * e + e) ++ rest =
                    (l ++ rest).take (0 + (j * e + off)) ++ (a.eval y).cells.toList ++ (l ++ rest).drop (0 + (j * e + off) + n) := by
                  have t1 : (l ++ rest).take (0 + (j * e + off)) = l.take (j * e) ++ ((l.drop (j * e)).take e).take off := by
                    rw [List.take_append_of_le_length (by omega), Nat.zero_add, List.take_take, Nat.min_eq_left (by omega), List.take_add]
                  have t2 : (l ++ rest).drop (0 + (j * e + off) + n) = ((l.drop (j * e)).take e).drop (off + n) ++ l.drop (j * e + e) ++ rest := by
                    rw [List.drop_append_of_le_length (by omega), Nat.zero_add]
                    congr 1
                    rw [List.drop_take, List.drop_drop, Nat.add_assoc]
                    have : l.drop (j * e + e) = (l.drop (j * e + (off + n))).drop (e - (off + n)) := by rw [List.drop_drop]; congr 1; omega
                    rw [this, List.take_append_drop]
                  rw [t1, t2]; simp [List.append_assoc]
                have hu := hE.upd (new := ((l ++ rest).take (0 + (j * e + off)) ++ (a.eval y).cells.toList ++ (l ++ rest).drop (0 + (j * e + off) + n)).toArray) (vb' := .arr e (xs.set j (cs.take off ++ (ry.ev env).cells ++ cs.drop (off + n))) tot) hlt hf
                  ⟨b, _, rest, T, hφ', hden, by rw [hsame]; exact if_pos rfl, by rw [hsame, htot]; congr 1; simp [hys]; omega, by
                    intro x hx
                    rcases List.mem_or_eq_of_mem_set hx with hx | hx
                    · exact hall x hx
                    · rw [hx]; exact hnl⟩
                refine ⟨_, _, _, by rw [hnew] at hk; exact hk, hu.1, hu.2, ?_⟩
                simp only [execOp, hex, Sem.run_bind]
                rw [hrun]
                simp
              · exact hk.elim
            · exact hk.elim
          · exact hk.elim
        · exact hk.elim
      · exact hk.elim
    · exact hk.elim
  · exact hk.elim
end
end Go.SL
