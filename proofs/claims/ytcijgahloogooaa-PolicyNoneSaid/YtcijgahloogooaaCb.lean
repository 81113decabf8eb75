/- What Canon and Apply answer, of few numbers; the known runs. -/
import Derived.Test.YtcijgahloogooaaC9
import Derived.Test.YtcijgahloogooaaCe
import Derived.Test.YtcijgahloogooaaCa
namespace Go.Proofs.Ytcijgahloogooaa
open Go Go.Proofs.Sg
set_option maxRecDepth 10000
set_option maxHeartbeats 8000000
set_option linter.unusedSimpArgs false
set_option linter.unusedVariables false
variable (m : Nat)

/-- Canon, as the program has it: its Comms are these. -/
def canonP (a : Attrs) (c : Sl (BitVec 32)) : Attrs := ⟨a.origin, nilOr a.path.l, a.next, a.hasMed, if a.hasMed then a.med else 0, a.hasPref, if a.hasPref then a.pref else 0, a.atomic, c⟩

theorem c46_nil (a : Attrs) (hp : wide a.path) (hc : a.comms.l = []) : evF env (m + 8) true 46 [attrsV a] = some (attrsV (canonP a .nil), []) := by
  obtain ⟨og, p, nx, hm, md, hpf, pr, atm, s⟩ := a
  dsimp only at hp hc
  have h81 : evF env (m + 7) false 81 [.c (.t (.fn 123 [s.t u32c]))] = some (V.p (.slice none 0 0), []) := by
    cases s with
    | nil => exact c81_nil (m + 1)
    | mk l =>
      have hl : l = [] := hc
      subst hl
      exact c81_zero (m + 1)
  have h80 : ∀ (st : Tr Blk) (n : Nat), evR env (m + 7) 80 [V.p (.slice none 0 0)] st n = some (V.p (.slice none 0 0), st, n) := fun st n => by
    rw [evR_go fn80 rfl]
    simp (disch := first | assumption | omega | (simp only [go_sem]; done) | (simp only [go_sem, List.length_append, List.length_take, List.length_drop]; omega) | decide) only [go_sem, ↓reduceIte, ↓Nat.reduceEqDiff, ↓Nat.reduceAdd, ↓Nat.reduceLeDiff, ↓Nat.reduceLT, ↓Nat.reduceMul, ↓Nat.reduceSub, ↓Nat.reduceBNe, ↓Nat.reduceBEq, reduceCtorEq, Nat.le_refl, decide_eq_true_eq, Bool.not_eq_true, decide_eq_false_iff_not, decide_not, i64_id, y80, Int.ofNat_eq_natCast, Int.cast_ofNat_Int, Int.reduceLT, Int.ofNat_zero, decide_true]
  rw [evF_go rfl fn46 rfl]
  simp (disch := first | assumption | omega | (simp only [go_sem]; done) | (simp only [go_sem, List.length_append, List.length_take, List.length_drop]; omega) | decide) only [go_sem, ↓reduceIte, ↓Nat.reduceEqDiff, ↓Nat.reduceAdd, ↓Nat.reduceLeDiff, ↓Nat.reduceLT, ↓Nat.reduceMul, ↓Nat.reduceSub, ↓Nat.reduceBNe, ↓Nat.reduceBEq, reduceCtorEq, Nat.le_refl, decide_eq_true_eq, Bool.not_eq_true, decide_eq_false_iff_not, decide_not, i64_id, y46, c79, hp]
  rw [goB_ite]
  split
  all_goals
    rename_i e1
    simp (disch := first | assumption | omega | (simp only [go_sem]; done) | (simp only [go_sem, List.length_append, List.length_take, List.length_drop]; omega) | decide) only [go_sem, ↓reduceIte, ↓Nat.reduceEqDiff, ↓Nat.reduceAdd, ↓Nat.reduceLeDiff, ↓Nat.reduceLT, ↓Nat.reduceMul, ↓Nat.reduceSub, ↓Nat.reduceBNe, ↓Nat.reduceBEq, reduceCtorEq, Nat.le_refl, decide_eq_true_eq, Bool.not_eq_true, decide_eq_false_iff_not, decide_not, i64_id]
    rw [goB_ite]
    split
  all_goals
    rename_i e2
    simp (disch := first | assumption | omega | (simp only [go_sem]; done) | (simp only [go_sem, List.length_append, List.length_take, List.length_drop]; omega) | decide) only [go_sem, ↓reduceIte, ↓Nat.reduceEqDiff, ↓Nat.reduceAdd, ↓Nat.reduceLeDiff, ↓Nat.reduceLT, ↓Nat.reduceMul, ↓Nat.reduceSub, ↓Nat.reduceBNe, ↓Nat.reduceBEq, reduceCtorEq, Nat.le_refl, decide_eq_true_eq, Bool.not_eq_true, decide_eq_false_iff_not, decide_not, i64_id, c82, h81, h80]
    simp_all [canonP, Sl.t]

theorem comp_cut {kk : K} {L : Nat} {d : Option Nat} {os : List Op1} {ks : List Kt} {tm : Tr V} {z : Bool} {rs : List Rs} {R : Option (V × List Blk)} {id nn : Nat} {st : Tr Blk} {l : List (BitVec 32)} {r : Option (V × Tr Blk × Nat)} (h : CompQ id nn st l r)
    (hk : ∀ (st' : Tr Blk) (l' : List (BitVec 32)), st'.get id = some (.arr 1 (l'.flatMap u32c)) → (∀ j, j ≠ id → st'.get j = st.get j) → l'.take (dd l).length = dd l → (dd l).length ≤ l'.length → endF z (endB rs (goA kk L d os ks tm (some (.c (.own id 1 0 (dd l).length), st', nn)))) = R) :
    endF z (endB rs (goA kk L d os ks tm r)) = R := by
  obtain ⟨st', l', rfl, h1, h2, h3, h4⟩ := h
  exact hk st' l' h1 h2 h3 h4

theorem c46_some (a : Attrs) (l : List (BitVec 32)) (hp : wide a.path) (hc : a.comms = .mk l) (h0 : 0 < l.length) (hl : l.length ≤ 12) : evF env (m + 8) true 46 [attrsV a] = some (attrsV (canonP a (.mk (canL l))), []) := by
  obtain ⟨og, p, nx, hm, md, hpf, pr, atm, s⟩ := a
  dsimp only at hp hc
  subst hc
  obtain ⟨l', h81, hperm, hsrt⟩ := c81 (m + 1) l h0 hl
  have hll : l'.length = l.length := hperm.length_eq
  rw [← hll] at hsrt
  have hdd := dd_canL hsrt hperm
  rw [← hll] at h81
  rw [evF_go rfl fn46 rfl]
  simp (disch := first | assumption | omega | (simp only [go_sem]; done) | (simp only [go_sem, List.length_append, List.length_take, List.length_drop]; omega) | decide) only [go_sem, ↓reduceIte, ↓Nat.reduceEqDiff, ↓Nat.reduceAdd, ↓Nat.reduceLeDiff, ↓Nat.reduceLT, ↓Nat.reduceMul, ↓Nat.reduceSub, ↓Nat.reduceBNe, ↓Nat.reduceBEq, reduceCtorEq, Nat.le_refl, decide_eq_true_eq, Bool.not_eq_true, decide_eq_false_iff_not, decide_not, i64_id, y46, c79, hp]
  rw [goB_ite]
  split
  all_goals
    rename_i e1
    simp (disch := first | assumption | omega | (simp only [go_sem]; done) | (simp only [go_sem, List.length_append, List.length_take, List.length_drop]; omega) | decide) only [go_sem, ↓reduceIte, ↓Nat.reduceEqDiff, ↓Nat.reduceAdd, ↓Nat.reduceLeDiff, ↓Nat.reduceLT, ↓Nat.reduceMul, ↓Nat.reduceSub, ↓Nat.reduceBNe, ↓Nat.reduceBEq, reduceCtorEq, Nat.le_refl, decide_eq_true_eq, Bool.not_eq_true, decide_eq_false_iff_not, decide_not, i64_id]
    rw [goB_ite]
    split
  all_goals
    rename_i e2
    simp (disch := first | assumption | omega | (simp only [go_sem]; done) | (simp only [go_sem, List.length_append, List.length_take, List.length_drop]; omega) | decide) only [go_sem, ↓reduceIte, ↓Nat.reduceEqDiff, ↓Nat.reduceAdd, ↓Nat.reduceLeDiff, ↓Nat.reduceLT, ↓Nat.reduceMul, ↓Nat.reduceSub, ↓Nat.reduceBNe, ↓Nat.reduceBEq, reduceCtorEq, Nat.le_refl, decide_eq_true_eq, Bool.not_eq_true, decide_eq_false_iff_not, decide_not, i64_id, c82, h81]
    refine comp_cut (c80 (m + 6) l' 2 3 _ (by omega) (by omega) (by simp (disch := first | assumption | omega | (simp only [go_sem]; done) | (simp only [go_sem, List.length_append, List.length_take, List.length_drop]; omega) | decide) only [go_sem, ↓reduceIte, ↓Nat.reduceEqDiff, ↓Nat.reduceAdd, ↓Nat.reduceLeDiff, ↓Nat.reduceLT, ↓Nat.reduceMul, ↓Nat.reduceSub, ↓Nat.reduceBNe, ↓Nat.reduceBEq, reduceCtorEq, Nat.le_refl, decide_eq_true_eq, Bool.not_eq_true, decide_eq_false_iff_not, decide_not, i64_id]) (by omega)) ?_
    intro st' l2 h1 h2 h3 h4
    have g0 := h2 0 (by omega)
    have g1 := h2 1 (by omega)
    simp (disch := first | assumption | omega | (simp only [go_sem]; done) | (simp only [go_sem, List.length_append, List.length_take, List.length_drop]; omega) | decide) only [go_sem, ↓reduceIte, ↓Nat.reduceEqDiff, ↓Nat.reduceAdd, ↓Nat.reduceLeDiff, ↓Nat.reduceLT, ↓Nat.reduceMul, ↓Nat.reduceSub, ↓Nat.reduceBNe, ↓Nat.reduceBEq, reduceCtorEq, Nat.le_refl, decide_eq_true_eq, Bool.not_eq_true, decide_eq_false_iff_not, decide_not, i64_id] at g0 g1
    simp (disch := first | assumption | omega | (simp only [go_sem]; done) | (simp only [go_sem, List.length_append, List.length_take, List.length_drop]; omega) | decide) only [go_sem, ↓reduceIte, ↓Nat.reduceEqDiff, ↓Nat.reduceAdd, ↓Nat.reduceLeDiff, ↓Nat.reduceLT, ↓Nat.reduceMul, ↓Nat.reduceSub, ↓Nat.reduceBNe, ↓Nat.reduceBEq, reduceCtorEq, Nat.le_refl, decide_eq_true_eq, Bool.not_eq_true, decide_eq_false_iff_not, decide_not, i64_id, g0, g1, h1]
    have ht : List.take (dd l').length (List.flatMap u32c l2) = (dd l').flatMap u32c := by
      have e := fx_u32.take (dd l').length l2
      rw [Nat.mul_one] at e
      rw [e, h3]
    rw [ht, hdd]
    clear g0 g1 h1 h2 h3 h4 h81 hdd hsrt hperm ht
    simp_all [canonP, Sl.t]

/-- Canon, of few numbers. -/
theorem c46 (a : Attrs) (hp : wide a.path) (hl : a.comms.l.length ≤ 12) : evF env (m + 8) true 46 [attrsV a] = some (attrsV (canonP a (nilOr (canL a.comms.l))), []) := by
  by_cases h0 : a.comms.l.length = 0
  · have hc := List.length_eq_zero_iff.1 h0
    rw [c46_nil m a hp hc, hc]
    rfl
  · have hc := Sl.eq_mk (s := a.comms) (by omega)
    have hpos : 0 < (canL a.comms.l).length := by
      match hm : a.comms.l with
      | [] => rw [hm] at h0; exact absurd rfl h0
      | x :: l =>
        have := (canL_mem (x :: l) x).2 List.mem_cons_self
        exact List.length_pos_of_mem this
    rw [c46_some m a a.comms.l hp hc (by omega) hl, nilOr_pos hpos]

/-- No rules: Canon. -/
theorem c17_nil (n : BitVec 32) (pa : BitVec 32) (pl : Int) (a : Attrs) (hp : wide a.path) (hl : a.comms.l.length ≤ 12) :
    evF env (m + 9) true 17 [V.p (.slice none 0 0), V.p (U32 n), pfx pa pl, attrsV a] = some (.tup [(true, (attrsV (canonP a (nilOr (canL a.comms.l)))).cells), (false, [C.p (.bool true)])], []) := by
  rw [evF_go rfl fn17 rfl]
  simp (disch := first | assumption | omega | (simp only [go_sem]; done) | (simp only [go_sem, List.length_append, List.length_take, List.length_drop]; omega) | decide) only [go_sem, ↓reduceIte, ↓Nat.reduceEqDiff, ↓Nat.reduceAdd, ↓Nat.reduceLeDiff, ↓Nat.reduceLT, ↓Nat.reduceMul, ↓Nat.reduceSub, ↓Nat.reduceBNe, ↓Nat.reduceBEq, reduceCtorEq, Nat.le_refl, decide_eq_true_eq, Bool.not_eq_true, decide_eq_false_iff_not, decide_not, i64_id, y17, show env.L = 1125899906842624 from rfl, goI_succ, Int.ofNat_eq_natCast, Int.cast_ofNat_Int, Int.reduceLT, Int.ofNat_zero, decide_true]
  simp (disch := first | assumption | omega | (simp only [go_sem]; done) | (simp only [go_sem, List.length_append, List.length_take, List.length_drop]; omega) | decide) only [go_sem, ↓reduceIte, ↓Nat.reduceEqDiff, ↓Nat.reduceAdd, ↓Nat.reduceLeDiff, ↓Nat.reduceLT, ↓Nat.reduceMul, ↓Nat.reduceSub, ↓Nat.reduceBNe, ↓Nat.reduceBEq, reduceCtorEq, Nat.le_refl, decide_eq_true_eq, Bool.not_eq_true, decide_eq_false_iff_not, decide_not, i64_id, c46, hp, hl]
  try rfl
end Go.Proofs.Ytcijgahloogooaa
