/- Texts of one claim, laid into one: SLu QO QP QQ. -/
import Derived.Test.YtglghdjpkecngaaGreatSLt
import Derived.Test.YtglghdjpkecngaaGreatChecked
import Derived.Conc.LoneSelect
import Derived.KernelRfl
import Derived.Laws.Rows
import Derived.Test.YtglghdjpkecngaaGreatIRq
set_option linter.unusedVariables false
set_option linter.unusedSimpArgs false
/- A symbolic executor over the model: maps, as lists of pairs. -/
namespace Go.SL
end Go.SL

/- queue: Push and Pop, walked step by step: a select of one case with a default, in one goroutine. -/
namespace Go.Proofs.YtglghdjpkecngaaGreat
set_option linter.unusedVariables false
set_option linter.unusedSimpArgs false
open Go.Conc Go.RowKit
set_option maxRecDepth 100000 in
theorem push_room {w : World} {b c cap s r : Nat} {m n : Int} {buf : Array Value} {T : TypeId} (hb : w.heap[b]? = some (.cells #[.chan (some c), .int .i64 m] T (0, 0))) (hc : w.heap[c]? = some (.chan cap buf false s r false)) (hroom : buf.size < cap) :
    Calls Tryz.prog 80 #[.pointer (some ⟨b, 0, none⟩), .int .i64 n] w fun e w' => e = .returned (.int .i64 0) ∧ w' = w.setChan c cap (buf.push (.int .i64 n)) false (s + 1) r false := by
  have hcell : w.cell? ⟨b, 0, none⟩ = some (.chan (some c)) := by simp [World.cell?, hb]
  refine calls_of_loneTo fun cs => ?_
  have e : Frame.enter Tryz.prog 80 #[.pointer (some ⟨b, 0, none⟩), .int .i64 n] .normal = (base 80).at ⟨#[.pointer (some ⟨b, 0, none⟩), .int .i64 n, undef, undef, undef, undef, undef, undef, undef, undef, undef, undef, undef, undef, undef], []⟩ [.code (Tryz.f80.body.getD .skip)] := by
    simp [Frame.enter, Frame.at, Tryz.func80, base, Tryz.f80]
  rw [e]
  refine LoneTo.goes (n := 60) ?_
  simp only [Tryz.f80, Option.getD_some]
  s_c stepG_seq
  s_reg
  s_op
  s_c stepG_region_end
  s_c stepG_seq
  s_c stepG_seq
  s_reg
  s_op
  s_op
  s_c stepG_region_end
  s_cond false
  s_c stepG_skip
  s_c stepG_seq
  s_c stepG_seq
  s_reg
  s_op
  s_op
  s_op
  s_op
  s_c stepG_region_end
  s_reg
  s_op
  s_c stepG_region_end
  s_c stepG_seq
  s_reg
  s_stop
  refine LoneTo.step (step_lone_select_send_room (c := c) (cap := cap) (buf := buf) (s := s) (r := r) (tm := false) (stepG_comm (cases := #[scase c (.int .i64 n) (.int .i64 0)]) (blocking := false) (shape := .select) (w' := w) rfl rfl (by decide) (by simp [go_sem, execOp, scase, Act.eval])) hc hroom) ?_
  rw [Frame.finish_at]
  walk_nrm
  refine LoneTo.goes (n := 20) ?_
  s_op
  s_op
  s_c stepG_region_end
  s_c stepG_block
  s_cond true
  s_c stepG_seq
  s_reg
  s_op
  s_c stepG_region_end
  s_c stepG_ret'
  s_stop
  exact LoneTo.done ⟨.returned (.int .i64 0), _, rfl, ⟨rfl, rfl⟩, rfl, rfl, rfl, rfl, _, Tryz.func80, by simp [results, Tryz.f80, Frame.at]⟩
set_option maxRecDepth 100000 in
theorem push_full {w : World} {b c cap s r : Nat} {m n : Int} {buf : Array Value} {T : TypeId} (hb : w.heap[b]? = some (.cells #[.chan (some c), .int .i64 m] T (0, 0))) (hc : w.heap[c]? = some (.chan cap buf false s r false)) (hfull : cap ≤ buf.size) :
    Calls Tryz.prog 80 #[.pointer (some ⟨b, 0, none⟩), .int .i64 n] w fun e w' => e = .returned (.int .i64 9) ∧ w' = w := by
  have hcell : w.cell? ⟨b, 0, none⟩ = some (.chan (some c)) := by simp [World.cell?, hb]
  refine calls_of_loneTo fun cs => ?_
  have e : Frame.enter Tryz.prog 80 #[.pointer (some ⟨b, 0, none⟩), .int .i64 n] .normal = (base 80).at ⟨#[.pointer (some ⟨b, 0, none⟩), .int .i64 n, undef, undef, undef, undef, undef, undef, undef, undef, undef, undef, undef, undef, undef], []⟩ [.code (Tryz.f80.body.getD .skip)] := by
    simp [Frame.enter, Frame.at, Tryz.func80, base, Tryz.f80]
  rw [e]
  refine LoneTo.goes (n := 60) ?_
  simp only [Tryz.f80, Option.getD_some]
  s_c stepG_seq
  s_reg
  s_op
  s_c stepG_region_end
  s_c stepG_seq
  s_c stepG_seq
  s_reg
  s_op
  s_op
  s_c stepG_region_end
  s_cond false
  s_c stepG_skip
  s_c stepG_seq
  s_c stepG_seq
  s_reg
  s_op
  s_op
  s_op
  s_op
  s_c stepG_region_end
  s_reg
  s_op
  s_c stepG_region_end
  s_c stepG_seq
  s_reg
  s_stop
  refine LoneTo.step (step_lone_select_send_full (c := c) (cap := cap) (buf := buf) (s := s) (r := r) (tm := false) (stepG_comm (cases := #[scase c (.int .i64 n) (.int .i64 0)]) (blocking := false) (shape := .select) (w' := w) rfl rfl (by decide) (by simp [go_sem, execOp, scase, Act.eval])) hc hfull) ?_
  rw [Frame.finish_at]
  walk_nrm
  refine LoneTo.goes (n := 20) ?_
  s_op
  s_op
  s_c stepG_region_end
  s_c stepG_block
  s_cond false
  s_c stepG_seq
  s_reg
  s_op
  s_c stepG_region_end
  s_c stepG_ret'
  s_stop
  exact LoneTo.done ⟨.returned (.int .i64 9), _, rfl, ⟨rfl, rfl⟩, rfl, rfl, rfl, rfl, _, Tryz.func80, by simp [results, Tryz.f80, Frame.at]⟩
set_option maxRecDepth 100000 in
theorem pop_some {w : World} {b c cap s r : Nat} {m : Int} {buf : Array Value} {T : TypeId} (hb : w.heap[b]? = some (.cells #[.chan (some c), .int .i64 m] T (0, 0))) (hc : w.heap[c]? = some (.chan cap buf false s r false)) {x : Int} (hx : buf[0]? = some (.int .i64 x)) (hsome : 0 < buf.size) :
    Calls Tryz.prog 108 #[.pointer (some ⟨b, 0, none⟩)] w fun e w' => e = .returned (.tuple #[.int .i64 x, .bool true]) ∧ w' = w.setChan c cap (buf.extract 1 buf.size) false s (r + 1) false := by
  have hcell : w.cell? ⟨b, 0, none⟩ = some (.chan (some c)) := by simp [World.cell?, hb]
  refine calls_of_loneTo fun cs => ?_
  have e : Frame.enter Tryz.prog 108 #[.pointer (some ⟨b, 0, none⟩)] .normal = (base 108).at ⟨#[.pointer (some ⟨b, 0, none⟩), undef, undef, undef, undef, undef, undef, undef, undef, undef, undef, undef, undef, undef, undef, undef], []⟩ [.code (Tryz.f108.body.getD .skip)] := by
    simp [Frame.enter, Frame.at, Tryz.func108, base, Tryz.f108]
  rw [e]
  refine LoneTo.goes (n := 60) ?_
  simp only [Tryz.f108, Option.getD_some]
  s_c stepG_seq
  s_reg
  s_op
  s_op
  s_c stepG_region_end
  s_c stepG_seq
  s_c stepG_seq
  s_reg
  s_op
  s_op
  s_c stepG_region_end
  s_cond false
  s_c stepG_skip
  s_c stepG_seq
  s_reg
  s_op
  s_op
  s_op
  s_op
  s_c stepG_region_end
  s_c stepG_seq
  s_reg
  s_stop
  refine LoneTo.step (step_lone_select_recv_buf (c := c) (z := .int .i64 0) (stepG_comm (cases := #[rcase c (.int .i64 0)]) (blocking := false) (shape := .select) (w' := w) rfl rfl (by decide) (by simp [go_sem, execOp, rcase, Act.eval])) hc hsome) ?_
  rw [Frame.finish_at]
  walk_nrm
  refine LoneTo.goes (n := 40) ?_
  simp only [hx, Option.getD_some]
  s_op
  s_op
  s_c stepG_region_end
  s_c stepG_block
  s_cond true
  s_c stepG_seq
  s_reg
  s_op
  s_op
  s_c stepG_region_end
  s_c stepG_seq
  s_reg
  s_op
  s_op
  s_op
  s_c stepG_region_end
  s_c stepG_ret'
  s_stop
  exact LoneTo.done ⟨.returned (.tuple #[.int .i64 x, .bool true]), _, rfl, ⟨rfl, rfl⟩, rfl, rfl, rfl, rfl, _, Tryz.func108, by simp [results, Tryz.f108, Frame.at]⟩
set_option maxRecDepth 100000 in
theorem pop_none {w : World} {b c cap s r : Nat} {m : Int} {buf : Array Value} {T : TypeId} (hb : w.heap[b]? = some (.cells #[.chan (some c), .int .i64 m] T (0, 0))) (hc : w.heap[c]? = some (.chan cap buf false s r false)) (he : buf = #[]) :
    Calls Tryz.prog 108 #[.pointer (some ⟨b, 0, none⟩)] w fun e w' => e = .returned (.tuple #[.int .i64 0, .bool false]) ∧ w' = w := by
  have hcell : w.cell? ⟨b, 0, none⟩ = some (.chan (some c)) := by simp [World.cell?, hb]
  refine calls_of_loneTo fun cs => ?_
  have e : Frame.enter Tryz.prog 108 #[.pointer (some ⟨b, 0, none⟩)] .normal = (base 108).at ⟨#[.pointer (some ⟨b, 0, none⟩), undef, undef, undef, undef, undef, undef, undef, undef, undef, undef, undef, undef, undef, undef, undef], []⟩ [.code (Tryz.f108.body.getD .skip)] := by
    simp [Frame.enter, Frame.at, Tryz.func108, base, Tryz.f108]
  rw [e]
  refine LoneTo.goes (n := 60) ?_
  simp only [Tryz.f108, Option.getD_some]
  s_c stepG_seq
  s_reg
  s_op
  s_op
  s_c stepG_region_end
  s_c stepG_seq
  s_c stepG_seq
  s_reg
  s_op
  s_op
  s_c stepG_region_end
  s_cond false
  s_c stepG_skip
  s_c stepG_seq
  s_reg
  s_op
  s_op
  s_op
  s_op
  s_c stepG_region_end
  s_c stepG_seq
  s_reg
  s_stop
  refine LoneTo.step (step_lone_select_default (c := c) (z := .int .i64 0) (cap := cap) (s := s) (r := r) (tm := false) (stepG_comm (cases := #[rcase c (.int .i64 0)]) (blocking := false) (shape := .select) (w' := w) rfl rfl (by decide) (by simp [go_sem, execOp, rcase, Act.eval])) (by rw [hc, he])) ?_
  rw [Frame.finish_at]
  walk_nrm
  refine LoneTo.goes (n := 40) ?_
  s_op
  s_op
  s_c stepG_region_end
  s_c stepG_block
  s_cond false
  s_c stepG_seq
  s_reg
  s_op
  s_op
  s_c stepG_region_end
  s_c stepG_ret'
  s_stop
  exact LoneTo.done ⟨.returned (.tuple #[.int .i64 0, .bool false]), _, rfl, ⟨rfl, rfl⟩, rfl, rfl, rfl, rfl, _, Tryz.func108, by simp [results, Tryz.f108, Frame.at]⟩
end Go.Proofs.YtglghdjpkecngaaGreat

/- queue: what Push and Pop do, as contracts. -/
namespace Go.Proofs.YtglghdjpkecngaaGreat
set_option linter.unusedVariables false
set_option linter.unusedSimpArgs false
open Go Go.SL
def ints (l : List Int) : List VV := l.map (.int .i64)
theorem ints_den (φ : Phi) : ∀ l : List Int, denL φ (ints l) = some (l.map (.int .i64))
  | [] => rfl
  | a :: l => denL_cons.2 ⟨_, _, rfl, ints_den φ l, rfl⟩
theorem ints_len (l : List Int) : (ints l).length = l.length := by simp [ints]
theorem ints_rn (ρ : Nat → Nat) (l : List Int) : rnL ρ (ints l) = ints l := by
  induction l with
  | nil => rfl
  | cons a l ih => simp only [ints, List.map_cons, rnL, rn] at ih ⊢; rw [ih]
theorem q_open {W0 w : World} {φ : Phi} {h : Nat → Frag} {cap : Nat} {l : List Int} {most : Int} (hE : Emb W0 φ [.cells [.chan 1, .int .i64 most], .chan cap (ints l)] h w) :
    ∃ b c s r T, φ 0 = some (b, 0) ∧ φ 1 = some (c, 0) ∧ w.heap[b]? = some (.cells #[.chan (some c), .int .i64 most] T (0, 0)) ∧ h 1 c = some (.chan cap (l.map (Value.int .i64)).toArray false s r false) ∧
      w.heap[c]? = some (.chan cap (l.map (Value.int .i64)).toArray false s r false) := by
  obtain ⟨b, lv, T, h1, h2, h3⟩ := hE.sat 0 _ rfl
  obtain ⟨c, lc, s, r, k1, k2, k3⟩ := hE.sat 1 _ rfl
  rw [ints_den] at k2
  cases k2
  have e : lv = [.chan (some c), .int .i64 most] := by
    obtain ⟨x, s', g1, g2, rfl⟩ := denL_cons.1 h2
    obtain ⟨y, s'', g3, g4, rfl⟩ := denL_cons.1 g2
    simp only [den, k1, Option.map_some, Option.some.injEq] at g1 g3
    simp only [denL, Option.some.injEq] at g4
    subst g1; subst g3; subst g4
    rfl
  subst e
  exact ⟨b, c, s, r, T, h1, k1, (hE.sub 0 b _ h3).2, k3, (hE.sub 1 c _ k3).2⟩
theorem q_upd {W0 w w' : World} {φ : Phi} {h : Nat → Frag} {cap c s r s' r' : Nat} {l l' : List Int} {most : Int} {buf : Array Value} (hE : Emb W0 φ [.cells [.chan 1, .int .i64 most], .chan cap (ints l)] h w) (hφ : φ 1 = some (c, 0))
    (hc : h 1 c = some (.chan cap (l.map (Value.int .i64)).toArray false s r false)) (hb : buf = (l'.map (Value.int .i64)).toArray) (hw : w' = w.setChan c cap buf false s' r' false) :
    ∃ h', Emb W0 φ [.cells [.chan 1, .int .i64 most], .chan cap (ints l')] h' w' ∧ Fr h h' w w' := by
  subst hb
  have := hE.obj (i := 1) (b := c) (vb' := .chan cap (ints l')) (new := .chan cap (l'.map (Value.int .i64)).toArray false s' r' false) (w' := w') (by simp) hc
    ⟨c, _, s', r', hφ, ints_den φ l', by simp⟩ (by rw [hw]; rfl) (by rw [hw]; exact ⟨rfl, rfl, rfl⟩)
  exact ⟨_, this⟩
theorem Push_ev {W0 : World} (cap : Nat) (l : List Int) (most n : Int) :
    Ev Tryz.prog W0 80 [.ptr 0 0, .int .i64 n] [.cells [.chan 1, .int .i64 most], .chan cap (ints l)] (fun v V' =>
      v = .int .i64 (if l.length < cap then 0 else 9) ∧ V' = [.cells [.chan 1, .int .i64 most], .chan cap (ints (if l.length < cap then l ++ [n] else l))]) := by
  refine ⟨by kernel_rfl, fun φ h w hE rargs hr => ?_⟩
  obtain ⟨b, c, s, r, T, h1, h2, h3, h4, h5⟩ := q_open hE
  have e : rargs = [.pointer (some ⟨b, 0, none⟩), .int .i64 n] := by
    obtain ⟨x, s', g1, g2, rfl⟩ := denL_cons.1 hr
    obtain ⟨y, s'', g3, g4, rfl⟩ := denL_cons.1 g2
    simp only [den, h1, Option.map_some, Option.some.injEq] at g1 g3
    simp only [denL, Option.some.injEq] at g4
    subst g1; subst g3; subst g4
    rfl
  subst e
  by_cases hl : l.length < cap
  · refine (push_room h3 h5 (by simpa using hl) (n := n)).mono ?_
    rintro e w' ⟨rfl, hw⟩
    obtain ⟨h', k1, k2⟩ := q_upd (l' := l ++ [n]) hE h2 h4 (by simp) hw
    exact ⟨_, _, _, φ, h', rfl, rfl, ⟨by rw [if_pos hl], by rw [if_pos hl]⟩, Phi.le_refl _, k1, k2⟩
  · refine (push_full h3 h5 (by simpa using hl) (n := n)).mono ?_
    rintro e w' ⟨rfl, rfl⟩
    exact ⟨_, _, _, φ, h, rfl, rfl, ⟨by rw [if_neg hl], by rw [if_neg hl]⟩, Phi.le_refl _, hE, Fr.refl _ _⟩
theorem Pop_ev {W0 : World} (cap : Nat) (l : List Int) (most : Int) :
    Ev Tryz.prog W0 108 [.ptr 0 0] [.cells [.chan 1, .int .i64 most], .chan cap (ints l)] (fun v V' =>
      v = .tup [.int .i64 (l.headD 0), .bool (!l.isEmpty)] ∧ V' = [.cells [.chan 1, .int .i64 most], .chan cap (ints l.tail)]) := by
  refine ⟨by kernel_rfl, fun φ h w hE rargs hr => ?_⟩
  obtain ⟨b, c, s, r, T, h1, h2, h3, h4, h5⟩ := q_open hE
  have e : rargs = [.pointer (some ⟨b, 0, none⟩)] := by
    obtain ⟨x, s', g1, g2, rfl⟩ := denL_cons.1 hr
    simp only [den, h1, Option.map_some, Option.some.injEq] at g1
    simp only [denL, Option.some.injEq] at g2
    subst g1; subst g2
    rfl
  subst e
  cases l with
  | nil =>
    refine (pop_none h3 h5 rfl).mono ?_
    rintro e w' ⟨rfl, rfl⟩
    exact ⟨_, _, _, φ, h, rfl, rfl, ⟨rfl, rfl⟩, Phi.le_refl _, hE, Fr.refl _ _⟩
  | cons x l =>
    refine (pop_some h3 h5 (x := x) (by simp) (by simp)).mono ?_
    rintro e w' ⟨rfl, hw⟩
    obtain ⟨h', k1, k2⟩ := q_upd (l' := l) hE h2 h4 (by apply Array.toList_inj.1; simp [List.take_of_length_le]) hw
    exact ⟨_, _, _, φ, h', rfl, rfl, ⟨rfl, rfl⟩, Phi.le_refl _, k1, k2⟩
theorem PushOk_ev {W0 : World} (cap : Nat) (l : List Int) (most n : Int) (h : l.length < cap) :
    Ev Tryz.prog W0 80 [.ptr 0 0, .int .i64 n] [.cells [.chan 1, .int .i64 most], .chan cap (ints l)] (fun v V' => v = .int .i64 0 ∧ V' = [.cells [.chan 1, .int .i64 most], .chan cap (ints (l ++ [n]))]) :=
  (Push_ev cap l most n).mono fun v V' ⟨h1, h2⟩ => ⟨by rw [h1, if_pos h], by rw [h2, if_pos h]⟩
end Go.Proofs.YtglghdjpkecngaaGreat

/- queue: New, Len, Room, awake. -/
namespace Go.Proofs.YtglghdjpkecngaaGreat
set_option linter.unusedVariables false
set_option linter.unusedSimpArgs false
open Go Go.SL
set_option maxRecDepth 100000
theorem Len_ev {W0 : World} (cap : Nat) (l : List Int) (most : Int) : Ev Tryz.prog W0 82 [.ptr 0 0] [.cells [.chan 1, .int .i64 most], .chan cap (ints l)] (fun v V' =>
    v = .int .i64 l.length ∧ V' = [.cells [.chan 1, .int .i64 most], .chan cap (ints l)]) := by
  refine Ev.out fun Q' hQ => ev82 rfl fun o => ?_
  have hl := ints_len l
  have hr := fun ρ => ints_rn ρ l
  generalize ints l = xs at *
  (cbv; repeat' (refine mt (fun _ => ?_) (fun _ => ?_) <;> cbv))
  refine hQ _ _ (ReV.ren [0, 1] (.int .i64 l.length) [.cells [.chan 1, .int .i64 most], .chan cap xs] rfl rfl ?_ (by simp_all [Cap.rn, fitB, mixOk, rnB, lget, rnL, rn, rho, llen, Plain, assoc, mix, envOf]) ⟨rfl, rfl⟩)
  simp [rn, o.len_eq, hl]
end Go.Proofs.YtglghdjpkecngaaGreat

