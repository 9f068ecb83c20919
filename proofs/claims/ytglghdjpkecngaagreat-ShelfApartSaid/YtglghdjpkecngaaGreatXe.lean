/- Texts of one claim, laid into one: CR CS CT CU. -/
import Derived.Test.YtglghdjpkecngaaGreatXd
import Derived.Test.YtglghdjpkecngaaGreatBI
set_option linter.unusedVariables false
set_option linter.unusedSimpArgs false
/- The arena, alone: several lists. No program in sight. -/
namespace Go.FL
open Go Go.SL

section
variable {c : Cfg} {f g : Int → Nat} {F : List Int} {m : MemS} {q : Int} {e : EnvS}
abbrev Lst := (Nat × Int) × List (Nat × Int)
abbrev hdls (L : Lst) : List Nat := (L.1 :: L.2).map (·.1)
structure ML (c : Cfg) (f : Int → Nat) (F : List Int) (Ls : List Lst) : Prop where
  inv : Inv c f F
  all : ∀ L ∈ Ls, LS c f F L.1 L.2
  dj : Ls.Pairwise fun L M => ∀ x ∈ hdls L, x ∉ hdls M
theorem LS.stay {F' : List Int} {hd : Nat × Int} {ks : List (Nat × Int)} {hs : List Nat} (I : Inv c f F) (L : LS c f F hd ks) (I' : Inv c g F') (R : Frm c f g hs) (hh : ∀ h ∈ hs, (∃ k nx, Node c f h k nx)) (hd' : ∀ x ∈ (hd :: ks).map (·.1), x ∉ hs) : LS c g F' hd ks := by
  refine ⟨I', L.ch.frame fun x hx => ?_, L.nd, L.so⟩
  obtain ⟨nx, N⟩ := L.ch.node x hx
  have := R.keep _ N.H.i0 N.H.i1 N.H.live fun h hm he => by
    obtain ⟨k, nx', N'⟩ := hh h hm
    have hne : h ≠ x.1 := by rintro rfl; exact hd' _ (List.mem_map_of_mem hx) hm
    exact (N'.apart I N hne).1 he
  refine ⟨this.1, fun b b0 b1 => this.2 b b0 ?_⟩
  have hs := N.size
  simp only [adr] at hs b1
  omega
theorem ML.upd {F' : List Int} {A B : List Lst} {L : Lst} {ks' : List (Nat × Int)} (H : ML c f F (A ++ L :: B)) (L' : LS c g F' L.1 ks') (R : Frm c f g (hdls L)) (hx : ∀ x ∈ ks'.map (·.1), x ∈ hdls L ∨ (slF c f (sot x)).state = 0) : ML c g F' (A ++ (L.1, ks') :: B) := by
  have hL := H.all L (by simp)
  have hh : ∀ h ∈ hdls L, ∃ k nx, Node c f h k nx := fun h hm => by
    obtain ⟨x, hx, rfl⟩ := List.mem_map.1 hm
    obtain ⟨nx, N⟩ := hL.ch.node x hx
    exact ⟨_, nx, N⟩
  have hdj := H.dj
  rw [List.pairwise_append, List.pairwise_cons] at hdj
  have other : ∀ M ∈ A ++ B, (∀ x ∈ hdls M, x ∉ hdls L) := fun M hM x hx hl => by
    rcases List.mem_append.1 hM with h | h
    · exact hdj.2.2 M h L (by simp) x hx hl
    · exact hdj.2.1.1 M h x hl hx
  have live : ∀ M ∈ A ++ B, ∀ x ∈ hdls M, (slF c f (sot x)).state = 1 := fun M hM x hx => by
    have hMm : M ∈ A ++ L :: B := by
      rcases List.mem_append.1 hM with h | h
      · simp [h]
      · simp [h]
    obtain ⟨y, hy, rfl⟩ := List.mem_map.1 hx
    obtain ⟨nx, N⟩ := (H.all M hMm).ch.node y hy
    exact N.H.live
  have newp : ∀ M ∈ A ++ B, ∀ x ∈ hdls (L.1, ks'), x ∉ hdls M := fun M hM x hx' hm => by
    rcases List.mem_cons.1 hx' with rfl | hx'
    · exact other M hM _ hm (by simp)
    · rcases hx x hx' with h | h
      · exact other M hM x hm h
      · have := live M hM x hm; omega
  refine ⟨L'.inv, fun M hM => ?_, ?_⟩
  · rcases List.mem_append.1 hM with h | h
    · exact (H.all M (by simp [h])).stay H.inv L'.inv R hh (other M (by simp [h]))
    · rcases List.mem_cons.1 h with rfl | h
      · exact L'
      · exact (H.all M (by simp [h])).stay H.inv L'.inv R hh (other M (by simp [h]))
  · rw [List.pairwise_append, List.pairwise_cons]
    refine ⟨hdj.1, ⟨fun M hM x hx => newp M (by simp [hM]) x hx, hdj.2.1.2⟩, fun M hM K hK x hx => ?_⟩
    rcases List.mem_cons.1 hK with rfl | hK
    · exact fun h => newp M (by simp [hM]) x h hx
    · exact hdj.2.2 M hM K (by simp [hK]) x hx
theorem ML.split {Ls : List Lst} {p : Nat} {L : Lst} (h : Ls[p]? = some L) : ∃ A B, Ls = A ++ L :: B ∧ A.length = p := by
  have hp := (List.getElem?_eq_some_iff.1 h)
  obtain ⟨hp, e⟩ := hp
  refine ⟨Ls.take p, Ls.drop (p + 1), ?_, by simp; omega⟩
  rw [← e, List.getElem_cons_drop, List.take_append_drop]
/-- A few lists, and which keys are in which. -/
structure SX (c : Cfg) (q : Int) (m : MemS) (hs : List Nat) (Kn : Nat → Int → Prop) (i : Nat) : Prop where
  ex : ∃ f F Ls, ∃ N : Nat, ∃ B : Int, LMv c q m f ∧ ML c f F Ls ∧ Cap c f N ∧ Gens c f B ∧ N ≤ hs.length + i ∧ B ≤ i + 1 ∧ c.slots ≤ (F.length : Int) + hs.length + i ∧ Ls.map (·.1.1) = hs ∧
    (∀ (p : Nat) (L : Lst), Ls[p]? = some L → L.2.length ≤ i ∧ ∀ k, k ∈ keysOf L.2 ↔ Kn p k)
theorem SX.op (hc : CfgOk c) (hw : Who c e q) (w40 : c.words = 40) {hs : List Nat} {Kn : Nat → Int → Prop} {i : Nat} (A : SX c q m hs Kn i) {p h : Nat} (hp : hs[p]? = some h) {kind key : Int} (kd : kind = 1 ∨ kind = 2 ∨ kind = 3) (k0 : 0 ≤ key) (k1 : key < 1073741824)
    (ha : ((hs.length : Int) + i) < 13 * c.chunks) (hb : (i : Int) + 1 < c.gens) (hf : (hs.length : Int) + i < c.slots) :
    ∃ n s' m', n ≤ 16 * i + 200 ∧ LRn e q n (newList kind key h) m s' m' ∧ s'.out.e = 0 ∧ (Kn p key → s'.out.v = if kind = 2 then 0 else 1) ∧ (¬ Kn p key → s'.out.v = if kind = 2 then 1 else 0) ∧
      SX c q m' hs (fun p' k' => if kind ≠ 1 ∧ p' = p ∧ k' = key then kind = 2 else Kn p' k') (i + 1) := by
  obtain ⟨f, F, Ls, N, B, M, ml, C, G, hN, hB, hF, hhs, hk⟩ := A.ex
  have hLp : ∃ L, Ls[p]? = some L ∧ L.1.1 = h := by
    rw [← hhs, List.getElem?_map] at hp
    cases hl : Ls[p]? with
    | none => rw [hl] at hp; cases hp
    | some L => rw [hl] at hp; simp only [Option.map_some, Option.some.injEq] at hp; exact ⟨L, rfl, hp⟩
  obtain ⟨L, hL, rfl⟩ := hLp
  obtain ⟨X, Y, hXY, hXl⟩ := ML.split hL
  have hLS := ml.all L (List.mem_of_getElem? hL)
  obtain ⟨hlen, hkn⟩ := hk p L hL
  -- what is seen of all lists, when one has become another
  have upd : ∀ (ks' : List (Nat × Int)) (P : Int → Prop), ks'.length ≤ i + 1 → (∀ k, k ∈ keysOf ks' ↔ P k) → ∀ (p' : Nat) (L' : Lst), (X ++ (L.1, ks') :: Y)[p']? = some L' → L'.2.length ≤ i + 1 ∧ ∀ k, k ∈ keysOf L'.2 ↔ if p' = p then P k else Kn p' k := by
    intro ks' P hl hP p' L' hL'
    by_cases hpp : p' = p
    · subst hpp
      rw [List.getElem?_append_right (by omega), hXl, Nat.sub_self] at hL'
      simp only [List.getElem?_cons_zero, Option.some.injEq] at hL'
      subst hL'
      exact ⟨hl, fun k => by rw [if_pos rfl]; exact hP k⟩
    · have hold : Ls[p']? = some L' := by
        rw [hXY]
        by_cases hlt : p' < p
        · rw [List.getElem?_append_left (by omega)] at hL' ⊢; exact hL'
        · obtain ⟨t, ht⟩ : ∃ t, p' - X.length = t + 1 := ⟨p' - X.length - 1, by omega⟩
          rw [List.getElem?_append_right (by omega), ht] at hL' ⊢
          simpa using hL'
      obtain ⟨h1, h2⟩ := hk p' L' hold
      exact ⟨by omega, fun k => by rw [if_neg hpp]; exact h2 k⟩
  have hmp : ∀ ks', (X ++ (L.1, ks') :: Y).map (·.1.1) = hs := fun ks' => by rw [← hhs, hXY]; simp
  have sKn : ∀ (Q : Nat → Int → Prop), (∀ p' k', Q p' k' ↔ (if kind ≠ 1 ∧ p' = p ∧ k' = key then kind = 2 else Kn p' k')) → Q = fun p' k' => if kind ≠ 1 ∧ p' = p ∧ k' = key then kind = 2 else Kn p' k' := fun Q h => by funext p' k'; exact propext (h p' k')
  rw [hXY] at ml
  rcases kd with rfl | rfl | rfl
  · obtain ⟨n, s', m', hn', H, M', st, ho⟩ := has_run hc hw hLS M key
    refine ⟨n, s', m', by omega, H, by rw [ho], fun h => by rw [ho, if_pos ((hkn key).2 h)]; rfl, fun h => by rw [ho, if_neg (fun h' => h ((hkn key).1 h'))]; rfl, ?_⟩
    rw [← sKn Kn (fun p' k' => by rw [if_neg (by simp)])]
    exact ⟨f, F, Ls, N, B, M', by rw [hXY]; exact ml, C, G, by omega, by omega, by omega, hhs, fun p' L' h => ⟨by have := (hk p' L' h).1; omega, (hk p' L' h).2⟩⟩
  · obtain ⟨n, s', m', g, hn', H, M', ⟨⟨F', ks', L', R, hG, hr⟩⟩⟩ := add_run hc hw hLS M k0 k1
    refine ⟨n, s', m', by omega, H, ?_⟩
    rcases hr with ⟨h1, h2, h3, rfl, rfl, rfl⟩ | ⟨h1, rfl, _⟩ | ⟨h1, hfu, _⟩ | ⟨h1, h2, h3, ⟨i', rfl, hnw, hnn, hall, hso⟩, h5, h6, h7⟩
    · refine ⟨h2, fun h => by rw [h3]; rfl, fun h => absurd ((hkn key).1 h1) h, ?_⟩
      rw [← sKn Kn (fun p' k' => ?_)]
      · exact ⟨_, _, Ls, N, B, M', by rw [hXY]; exact ml, C, G, by omega, by omega, by omega, hhs, fun p' L' h => ⟨by have := (hk p' L' h).1; omega, (hk p' L' h).2⟩⟩
      · by_cases hc2 : p' = p ∧ k' = key
        · rw [if_pos ⟨by decide, hc2⟩, hc2.1, hc2.2]; exact ⟨fun _ => rfl, fun _ => (hkn key).1 h1⟩
        · rw [if_neg (fun h => hc2 h.2)]
    · simp only [List.length_nil] at hF; omega
    · exact absurd hfu (C.notfull w40 (by omega))
    · refine ⟨h2, fun h => absurd ((hkn key).2 h) h1, fun h => by rw [h3]; rfl, ?_⟩
      simp only [List.length_cons] at hF
      have hst0 : (slF c f (sot hnw)).state = 0 := by rw [hso]; exact ml.inv.fst i' (by simp)
      refine ⟨_, F', _, N + 1, B, M', ml.upd L' R (fun x hx => ?_), h7 N w40 (by omega) C, hG B G, by omega, by omega, by omega, hmp ks', ?_⟩
      · rcases (hall x).1 hx with rfl | h
        · exact .inr hst0
        · exact .inl (by simp only [hdls, List.map_cons, List.mem_cons]; exact .inr h)
      · intro p' L'' hL''
        obtain ⟨g1, g2⟩ := upd ks' (fun k => k = key ∨ Kn p k) (by omega) (fun k => by rw [h5, hkn]) p' L'' hL''
        refine ⟨g1, fun k => ?_⟩
        rw [g2]
        by_cases hpp : p' = p
        · subst hpp
          rw [if_pos rfl]
          by_cases hkk : k = key
          · rw [if_pos ⟨by decide, rfl, hkk⟩]; exact ⟨fun _ => rfl, fun _ => .inl hkk⟩
          · rw [if_neg (fun h => hkk h.2.2)]; exact ⟨fun h => h.resolve_left hkk, .inr⟩
        · rw [if_neg hpp, if_neg (fun h => hpp h.2.1)]
  · obtain ⟨n, s', m', g, hn', H, M', ⟨⟨F', ks', L', R, hX, he, hr⟩⟩⟩ := remove_run hc hw hLS M (key := key)
    refine ⟨n, s', m', by omega, H, he, ?_⟩
    rcases hr with ⟨h1, h2, rfl, rfl, rfl⟩ | ⟨h1, h2, h3, h4, hsub, h5, h6⟩
    · refine ⟨fun h => absurd ((hkn key).2 h) h1, fun h => by rw [h2]; rfl, ?_⟩
      rw [← sKn Kn (fun p' k' => ?_)]
      · exact ⟨_, _, Ls, N, B, M', by rw [hXY]; exact ml, C, G, by omega, by omega, by omega, hhs, fun p' L' h => ⟨by have := (hk p' L' h).1; omega, (hk p' L' h).2⟩⟩
      · by_cases hc2 : p' = p ∧ k' = key
        · rw [if_pos ⟨by decide, hc2⟩, hc2.1, hc2.2]; exact ⟨fun h => absurd ((hkn key).2 h) h1, fun h => by cases h⟩
        · rw [if_neg (fun h => hc2 h.2)]
    · obtain ⟨h7, h8⟩ := h3 B G (by omega)
      refine ⟨fun h => by rw [h2]; rfl, fun h => absurd ((hkn key).1 h1) h, ?_⟩
      refine ⟨_, F', _, N, B + 1, M', ml.upd L' R (fun x hx => .inl ?_), hX.cap C, h7, by omega, by omega, by omega, hmp ks', ?_⟩
      · simp only [hdls, List.map_cons, List.mem_cons]; exact .inr (hsub x hx)
      · intro p' L'' hL''
        obtain ⟨g1, g2⟩ := upd ks' (fun k => k ≠ key ∧ Kn p k) (by omega) (fun k => by rw [h5, hkn]) p' L'' hL''
        refine ⟨g1, fun k => ?_⟩
        rw [g2]
        by_cases hpp : p' = p
        · subst hpp
          rw [if_pos rfl]
          by_cases hkk : k = key
          · rw [if_pos ⟨by decide, rfl, hkk⟩]; exact ⟨fun h => absurd hkk h.1, fun h => by cases h⟩
          · rw [if_neg (fun h => hkk h.2.2)]; exact ⟨fun h => h.2, fun h => ⟨hkk, h⟩⟩
        · rw [if_neg hpp, if_neg (fun h => hpp h.2.1)]
end
end Go.FL

/- The arena, alone: a fresh shelf. No program in sight. -/
namespace Go.FL
open Go Go.SL

section
variable {c : Cfg} {f g : Int → Nat} {F : List Int} {m : MemS} {q : Int} {e : EnvS}
theorem actTill_of {n : Nat} {s s' : ActS} {m' : MemS} (h : ARn e q n s m s' m') : ∀ N, n ≤ N → actTill e N s m = some (s', m') := by
  obtain ⟨k, s1, m1, rfl, h1, h2, h3, _⟩ := h.ex
  have last : ∀ N, 1 ≤ N → actTill e N s1 m1 = some (s', m') := fun N hN => by
    obtain ⟨N, rfl⟩ : ∃ N', N = N' + 1 := ⟨N - 1, by omega⟩
    simp only [actTill, h2, if_true, h3]
  clear h
  induction h1 with
  | nil => exact last
  | cons g1 g2 g3 _ ih =>
    intro N hN
    obtain ⟨N, rfl⟩ : ∃ N', N = N' + 1 := ⟨N - 1, by omega⟩
    simp only [actTill, g1, if_true, g2]
    exact ih h2 h3 last N (by omega)
theorem shelf_run (hc : CfgOk c) (hw : Who c e q) (w40 : c.words = 40) : ∀ (k j r : Nat) {m : MemS} {f : Int → Nat} {Ls : List Lst} {hs : List Nat} {B : Nat}, LMv c q m f → ML c f (slotsFrom j r) Ls → Cap c f j → Gens c f 1 → k ≤ r → ((j : Int) + k) ≤ 13 * c.chunks → ((j : Int) + r = c.slots) →
    Ls.map (·.1.1) = hs → (∀ L ∈ Ls, L.2 = []) → hs = (List.range j).map (65536 + ·) → Sb m B → B + 164 * k < 1000000 →
    ∃ m', shelfRun e k hs m = some (0, (List.range (j + k)).map (65536 + ·), m') ∧ Sb m' (B + 164 * k) ∧
      ∃ f' Ls', LMv c q m' f' ∧ ML c f' (slotsFrom (j + k) (r - k)) Ls' ∧ Cap c f' (j + k) ∧ Gens c f' 1 ∧ Ls'.map (·.1.1) = (List.range (j + k)).map (65536 + ·) ∧ ∀ L ∈ Ls', L.2 = []
  | 0, j, r, m, f, Ls, hs, B, M, ml, C, G, hk, hN, hr, hm, he, hh, sb, _ => by
    refine ⟨m, by simp [shelfRun, hh], sb, f, Ls, M, ml, C, G, by rw [hm, hh, Nat.add_zero], he⟩
  | k + 1, j, r, m, f, Ls, hs, B, M, ml, C, G, hk, hN, hr, hm, he, hh, sb, hB => by
    obtain ⟨r, rfl⟩ : ∃ r', r = r' + 1 := ⟨r - 1, by omega⟩
    have I : Inv c f ((j : Int) :: slotsFrom (j + 1) r) := ml.inv
    obtain ⟨n, a', m', g, s, jj, u, hn, H, M', ho, Md, L, C', hso⟩ := head_run hc hw I M w40 C (by omega)
    have hg1 : (slF c f j).gen = 1 := by
      have h1 := I.gen j (by omega) Md.i1
      have h2 := G j (by omega) Md.i1
      omega
    have hs1 := hc.s1
    have hjs := Md.i1
    have hph : putHandle ⟨(j : Int), (slF c f j).gen⟩ = 65536 + j := by
      have e1 : fitN (j : Int) 65535 = j := by rw [fitN_eq (by omega) (by omega)]; omega
      have e2 : fitN 1 65535 = 1 := by decide
      rw [hg1, putHandle_eq, e1, e2]; omega
    rw [hph] at ho L hso
    have hst0 : (slF c f j).state = 0 := Md.fst
    have ml' : ML c g (slotsFrom (j + 1) r) (Ls ++ [((65536 + j, 0), [])]) := by
      have R := Frm.made hc I Md []
      refine ⟨Md.inv, fun K hK => ?_, ?_⟩
      · rcases List.mem_append.1 hK with h | h
        · exact (ml.all K h).stay I Md.inv R (by simp) (by simp)
        · rw [List.mem_singleton.1 h]; exact L
      · rw [List.pairwise_append]
        refine ⟨ml.dj, by simp, fun K hK X hX x hx hx2 => ?_⟩
        rw [List.mem_singleton.1 hX] at hx2
        simp only [hdls, List.map_cons, List.map_nil, List.mem_singleton] at hx2
        subst hx2
        obtain ⟨y, hy, e2⟩ := List.mem_map.1 hx
        obtain ⟨nx, N⟩ := (ml.all K hK).ch.node y hy
        have := N.H.live
        rw [e2, hso] at this
        omega
    have sb' := (H.sb (fun s m => ActS.tk s) sb (by omega)).1
    have sb2 : Sb m' (B + 164) := ⟨sb'.1, Int.le_trans sb'.2 (by omega)⟩
    obtain ⟨m2, h1, h2, f2, Ls2, g1, g2, g3, g4, g5, g6⟩ := shelf_run hc hw w40 k (j + 1) r (hs := hs ++ [65536 + j]) M' ml' C' (G.made hc Md) (by omega) (by omega) (by omega) (by simp [hm])
      (fun K hK => by rcases List.mem_append.1 hK with h | h; exact he K h; rw [List.mem_singleton.1 h]) (by rw [hh, List.range_succ]; simp) sb2 (by omega)
    have hnf : nodeFuel = 2000 := by unfold nodeFuel; rfl
    refine ⟨m2, ?_, ⟨h2.1, Int.le_trans h2.2 (by omega)⟩, f2, Ls2, g1, ?_, ?_, g4, ?_, g6⟩
    · simp only [shelfRun]
      rw [show newAct nodeX = newAct ⟨1, 2, 0, 0, 0, 0, true⟩ from rfl, hnf, actTill_of H 2000 (by omega)]
      simp only [ho]
      rw [if_pos trivial, h1, show j + 1 + k = j + (k + 1) by omega]
    · rw [show j + (k + 1) = j + 1 + k by omega, show r + 1 - (k + 1) = r - k by omega]; exact g2
    · rw [show j + (k + 1) = j + 1 + k by omega]; exact g3
    · rw [show j + (k + 1) = j + 1 + k by omega]; exact g5
/-- A fresh arena with a fresh shelf. -/
theorem shelf_ok (t n ch k : Nat) (t0 : 1 ≤ t) (t1 : t ≤ 8) (n1 : n ≤ 65536) (c0 : 1 ≤ ch) (c1 : ch ≤ 64) (k0 : k ≤ 8) (kn : k ≤ n) (kp : 1 ≤ n) :
    ∃ m, freshShelf (arena t n ch 40) k (freshM (arena t n ch 40).c) = some (0, (List.range k).map (65536 + ·), m) ∧ Sb m 200000 ∧ SX (arena t n ch 40).c 6 m ((List.range k).map (65536 + ·)) (fun _ _ => False) 0 ∧ Who (arena t n ch 40).c (arena t n ch 40) 6 ∧ CfgOk (arena t n ch 40).c := by
  have hc : CfgOk (arena t n ch 40).c := by constructor <;> simp only [arena] <;> omega
  have hw : Who (arena t n ch 40).c (arena t n ch 40) 6 := ⟨rfl, by omega, by simp only [arena]; omega, (by decide : pinA 0 = 6)⟩
  obtain ⟨I, G, C⟩ := fresh_inv hc
  have hL := bA_ge hc (j := (arena t n ch 40).c.chunks) (by simp only [arena]; omega)
  have hz : freshF (arena t n ch 40).c 6 = 0 := freshF_zero hc (.inr (.inl (by simp only [sA, arena]; omega)))
  have M := (fresh_mw hc).mv (q := 6) (by omega) (by simp only [arena] at hL ⊢; omega)
  rw [hz] at M
  have hsn : (arena t n ch 40).c.slots.toNat = n := by simp only [arena]; omega
  rw [hsn] at I
  have sb := fresh_sb (arena t n ch 40).c (by simp only [arena]; omega)
  obtain ⟨m', h1, h2, f', Ls', g1, g2, g3, g4, g5, g6⟩ := shelf_run hc hw rfl k 0 n (Ls := []) (hs := []) M ⟨I, by simp, List.Pairwise.nil⟩ C G kn (by simp only [arena]; omega) (by simp only [arena]; omega) rfl (by simp) rfl sb (by omega)
  have hlen := slotsFrom_len (n - k) (0 + k)
  refine ⟨m', ?_, ⟨h2.1, Int.le_trans h2.2 (by omega)⟩, ⟨f', slotsFrom (0 + k) (n - k), Ls', 0 + k, 1, g1, g2, g3, g4, by simp, by omega, ?_, by rw [g5, Nat.zero_add], ?_⟩, hw, hc⟩
  · unfold freshShelf
    rw [if_neg (by omega), Int.toNat_natCast, h1, Nat.zero_add]
  · rw [hlen]; simp only [arena, List.length_map, List.length_range]; omega
  · intro p L hL
    have := g6 L (List.mem_of_getElem? hL)
    rw [this]
    simp [keysOf]
end
end Go.FL

/- The arena, alone: keys spread among lists. No program in sight. -/
namespace Go.FL
set_option linter.unusedVariables false
set_option linter.unusedSimpArgs false
open Go Go.SL
def ofL (key l : Int) : Int := if l < 1 then 0 else (key % 4294967296 * 2654435769) % 4294967296 % l
theorem ofL_lt {key l : Int} (h : 1 ≤ l) : 0 ≤ ofL key l ∧ ofL key l < l := by
  unfold ofL
  rw [if_neg (by omega)]
  exact ⟨Int.emod_nonneg _ (by omega), Int.emod_lt_of_pos _ (by omega)⟩
def KnI (inn : List Bool) (nn : Nat) (p : Nat) (k : Int) : Prop := 0 ≤ k ∧ k < inn.length ∧ (p : Int) = ofL k nn ∧ inn[k.toNat]?.getD false = true
def headsL (nn : Nat) : List Nat := (List.range nn).map (65536 + ·)
theorem headsL_len (nn : Nat) : (headsL nn).length = nn := by simp [headsL]
theorem headsL_get (nn p : Nat) (h : p < nn) : (headsL nn)[p]? = some (65536 + p) := by simp [headsL, h]
section
variable {c : Cfg} {f g : Int → Nat} {F : List Int} {m : MemS} {q : Int} {e : EnvS}
theorem SX.congr {hs : List Nat} {Kn Kn' : Nat → Int → Prop} {i : Nat} (A : SX c q m hs Kn i) (h : ∀ p k, p < hs.length → (Kn p k ↔ Kn' p k)) : SX c q m hs Kn' i := by
  obtain ⟨f, F, Ls, N, B, M, ml, C, G, hN, hB, hF, hhs, hk⟩ := A.ex
  refine ⟨f, F, Ls, N, B, M, ml, C, G, hN, hB, hF, hhs, fun p L hL => ⟨(hk p L hL).1, fun k => ?_⟩⟩
  have hp : p < hs.length := by
    have := (List.getElem?_eq_some_iff.1 hL).1
    rw [← hhs, List.length_map]; exact this
  rw [(hk p L hL).2 k, h p k hp]
theorem spread_step (hc : CfgOk c) (hw : Who c e q) (w40 : c.words = 40) {nn : Nat} {inn : List Bool} {i : Nat} (A : SX c q m (headsL nn) (KnI inn nn) i) (h1 : 1 ≤ nn) {kind : Int} {key : Nat} (kd : kind = 1 ∨ kind = 2 ∨ kind = 3) (k1 : key < inn.length) (kb : inn.length ≤ 65536)
    (ha : ((nn : Int) + i) < 13 * c.chunks) (hb : (i : Int) + 1 < c.gens) (hf : (nn : Int) + i < c.slots) :
    ∃ n s' m', n ≤ 16 * i + 200 ∧ LRn e q n (newList kind key (65536 + (ofL key nn).toNat)) m s' m' ∧ s'.out.e = 0 ∧ s'.out.v = (if (inn[key]?.getD false == (!decide (kind = 2))) = true then 1 else 0) ∧
      SX c q m' (headsL nn) (KnI (if kind = 1 then inn else inn.set key (decide (kind = 2))) nn) (i + 1) := by
  have ho := ofL_lt (key := key) (l := nn) (by omega)
  obtain ⟨n, s', m', hn, H, he, hv1, hv2, A'⟩ := A.op hc hw w40 (p := (ofL key nn).toNat) (headsL_get nn _ (by omega)) kd (key := key) (by omega) (by omega) (by rw [headsL_len]; exact ha) hb (by rw [headsL_len]; exact hf)
  have hkn : KnI inn nn (ofL key nn).toNat key ↔ inn[key]?.getD false = true := by
    unfold KnI
    rw [Int.toNat_natCast]
    exact ⟨fun h => h.2.2.2, fun h => ⟨by omega, by omega, by omega, h⟩⟩
  refine ⟨n, s', m', hn, H, he, ?_, A'.congr fun p k hp => ?_⟩
  · cases hb : inn[key]?.getD false with
    | true =>
      rw [hv1 (hkn.2 hb)]
      rcases kd with rfl | rfl | rfl <;> rfl
    | false =>
      rw [hv2 (fun h => by rw [hkn.1 h] at hb; cases hb)]
      rcases kd with rfl | rfl | rfl <;> rfl
  · by_cases h1 : kind = 1
    · rw [if_neg (fun h => h.1 h1), if_pos h1]
    · rw [if_neg h1]
      unfold KnI
      rw [List.length_set]
      by_cases hk : k = key
      · subst hk
        rw [Int.toNat_natCast, List.getElem?_set_self k1]
        simp only [Option.getD_some, decide_eq_true_eq]
        by_cases hpp : p = (ofL key nn).toNat
        · rw [if_pos (by simp [h1, hpp])]
          exact ⟨fun h => ⟨by omega, by omega, by omega, h⟩, fun h => h.2.2.2⟩
        · rw [if_neg (fun h => hpp h.2.1)]
          constructor
          · intro h; omega
          · intro h; omega
      · rw [if_neg (fun h => hk h.2.2)]
        by_cases h0 : 0 ≤ k
        · rw [List.getElem?_set_ne (by omega)]
        · constructor
          · intro h; omega
          · intro h; omega
end
end Go.FL

/- The arena, alone: a key is in its own list. No program in sight. -/
namespace Go.FL
open Go Go.SL
section
variable {c : Cfg} {m : MemS} {q : Int} {e : EnvS}
theorem apart_add (hc : CfgOk c) (hw : Who c e q) (w40 : c.words = 40) {nn p : Nat} (A : SX c q m (headsL nn) (fun _ _ => False) 0) (hp : p < nn) {ky : Nat} (hk : ky < 65536) (ha : (nn : Int) < 13 * c.chunks) (hb : 1 < c.gens) (hf : (nn : Int) < c.slots) :
    ∃ n s' m', n ≤ 200 ∧ LRn e q n (newList 2 ky (65536 + p)) m s' m' ∧ SX c q m' (headsL nn) (fun p' k' => p' = p ∧ k' = ky) 1 := by
  obtain ⟨n, s', m', hn, H, -, -, -, A'⟩ := A.op hc hw w40 (headsL_get nn p hp) (kind := 2) (key := ky) (.inr (.inl rfl)) (by omega) (by omega) (by rw [headsL_len]; omega) (by omega) (by rw [headsL_len]; omega)
  refine ⟨n, s', m', by omega, H, A'.congr fun p' k' _ => ?_⟩
  by_cases h : p' = p ∧ k' = (ky : Int)
  · rw [if_pos ⟨by decide, h⟩]; simp [h]
  · rw [if_neg (fun x => h x.2)]; exact ⟨fun x => x.elim, fun x => h x⟩
theorem apart_has (hc : CfgOk c) (hw : Who c e q) (w40 : c.words = 40) {nn p i a : Nat} {ky : Nat} (A : SX c q m (headsL nn) (fun p' k' => p' = p ∧ k' = (ky : Int)) a) (hi : i < nn) (hk : ky < 65536) (ha : (nn : Int) + a < 13 * c.chunks) (hb : (a : Int) + 1 < c.gens) (hf : (nn : Int) + a < c.slots) (ha2 : a < 100) :
    ∃ h s m', FL.ask e (65536 + i) 1 ky m = some (⟨0, h, if i = p then 1 else 0, s⟩, m') ∧ SX c q m' (headsL nn) (fun p' k' => p' = p ∧ k' = (ky : Int)) (a + 1) := by
  obtain ⟨n, s', m', hn, H, he, h1, h2, A'⟩ := A.op hc hw w40 (headsL_get nn i hi) (kind := 1) (key := ky) (.inl rfl) (by omega) (by omega) (by rw [headsL_len]; omega) (by omega) (by rw [headsL_len]; omega)
  have hck : checkList 1 ky = true := by simp only [checkList, Bool.and_eq_true, decide_eq_true_eq]; omega
  refine ⟨s'.out.h, s'.out.s, m', ?_, A'.congr fun p' k' _ => by rw [if_neg (fun x => x.1 rfl)]⟩
  rw [ask_of hck H (by omega)]
  have hv : s'.out.v = if i = p then 1 else 0 := by
    by_cases h : i = p
    · rw [h1 ⟨h, rfl⟩, if_pos h]; rfl
    · rw [h2 (fun x => h x.1), if_neg h]; rfl
  generalize s'.out = d at *
  obtain ⟨x1, x2, x3, x4⟩ := d
  simp only at he hv
  subst he hv
  rfl
end
end Go.FL

