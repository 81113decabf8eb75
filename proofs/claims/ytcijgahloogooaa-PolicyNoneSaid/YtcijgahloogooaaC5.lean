/- What the functions that make inputs answer. -/
import Derived.Test.YtcijgahloogooaaC4
namespace Go.Proofs.Ytcijgahloogooaa
open Go Go.Proofs.Sg
set_option maxRecDepth 10000
set_option maxHeartbeats 8000000
set_option linter.unusedSimpArgs false
set_option linter.unusedVariables false
variable (m : Nat)

def preA (a : BitVec 32) (n : Int) : BitVec 32 := ofB ((167772160 : BitVec 32) ||| (a % 64) <<< (18 : Nat)) (clampB (8 + within n 0 6))
def preL (n : Int) : Int := clampB (8 + within n 0 6)
def ruleOf (i : Int) (r : Rule) : Rule :=
  { pa := preA r.pa r.pl, pl := preL r.pl, lo := if r.lo.tmod 2 = 0 then 9 else 0, hi := if r.lo.tmod 2 = 0 then 12 else 32, comm := if r.comm % 3 = 1 then 1 + r.comm % 4 else 0, rej := r.rej && decide (i = 0),
    sp := r.sp, pr := if r.sp then 90 + r.pr % 30 else 0, sm := r.sm, md := if r.sm then r.md % 4 else 0, pre := within r.pre 0 2, ac := r.ac % 4 }
theorem c15' (a : BitVec 32) (n : Int) : evF env (m + 3) true 15 [V.p (U32 a), .int .i64 n] = some (pfx (preA a n) (preL n), []) := c15 m a n

theorem c14_one (r : Rule) : evF env (m + 4) true 14 [.c (.t ((Sl.mk [r]).t ruleC))] = some (.c (.t ((Sl.mk [ruleOf 0 r]).t ruleC)), []) := by
  have hl : (Sl.mk [r]).l.length = 1 := rfl
  have hat : (Sl.mk [r]).at 0 = r := rfl
  rw [evF_go rfl fn14 rfl]
  simp (disch := first | assumption | omega | (simp only [go_sem]; done) | (simp only [go_sem, List.length_append, List.length_take, List.length_drop]; omega) | decide) only [go_sem, ↓reduceIte, ↓Nat.reduceEqDiff, ↓Nat.reduceAdd, ↓Nat.reduceLeDiff, ↓Nat.reduceLT, ↓Nat.reduceMul, ↓Nat.reduceSub, ↓Nat.reduceBNe, ↓Nat.reduceBEq, reduceCtorEq, Nat.le_refl, decide_eq_true_eq, Bool.not_eq_true, decide_eq_false_iff_not, decide_not, i64_id, y14, show env.L = 1125899906842624 from rfl, goI_succ, hl, hat, ruleC, c15', c33, Int.ofNat_eq_natCast, Int.cast_ofNat_Int, Int.reduceLT, Int.reduceLE, Int.reduceAdd, Int.zero_add, decide_true]
  rw [goGD_ite]
  split
  all_goals
    rename_i e0
    simp (disch := first | assumption | omega | (simp only [go_sem]; done) | (simp only [go_sem, List.length_append, List.length_take, List.length_drop]; omega) | decide) only [go_sem, ↓reduceIte, ↓Nat.reduceEqDiff, ↓Nat.reduceAdd, ↓Nat.reduceLeDiff, ↓Nat.reduceLT, ↓Nat.reduceMul, ↓Nat.reduceSub, ↓Nat.reduceBNe, ↓Nat.reduceBEq, reduceCtorEq, Nat.le_refl, decide_eq_true_eq, Bool.not_eq_true, decide_eq_false_iff_not, decide_not, i64_id, e0, hl, hat, goI_succ, ruleC, c15', c33, Int.ofNat_eq_natCast, Int.cast_ofNat_Int, Int.reduceLT, Int.reduceLE, Int.reduceAdd, Int.zero_add, decide_true]
    refine if_cut (fun t => t.n = 2 ∧ t.tm.get 0 = some (.c (.t ((Sl.mk [r]).t ruleC))) ∧ t.tm.get 3 = some (V.p (.slice none 0 0)) ∧ t.tm.get 4 = some (.int .i64 0) ∧ t.tm.get 5 = some (.c (.ptr 0 0)) ∧ t.tm.get 6 = some (.c (.ptr 1 0)) ∧ t.st.get 0 = some (.box ((ruleC r).map C.t)) ∧ t.st.get 1 = some (.box [.t (.v (U32 (preA r.pa r.pl))), .t (.v (.int .i64 (preL r.pl))), .t (.v (.int .i64 (if r.lo.tmod 2 = 0 then 9 else 0))), .t (.v (.int .i64 (if r.lo.tmod 2 = 0 then 12 else 32))), .t (.v (U32 0)), .t (.v (.bool (r.rej && decide ((0 : Int) = 0)))), .t (.v (.bool r.sp)), .t (.v (U32 0)), .t (.v (.bool r.sm)), .t (.v (U32 0)), .t (.v (.int .i64 (within r.pre 0 2))), .t (.v (U32 (r.ac % 4)))])) ?_ ?_ ?_
    · intro e
      simp (disch := first | assumption | omega | (simp only [go_sem]; done) | (simp only [go_sem, List.length_append, List.length_take, List.length_drop]; omega) | decide) only [go_sem, ↓reduceIte, ↓Nat.reduceEqDiff, ↓Nat.reduceAdd, ↓Nat.reduceLeDiff, ↓Nat.reduceLT, ↓Nat.reduceMul, ↓Nat.reduceSub, ↓Nat.reduceBNe, ↓Nat.reduceBEq, reduceCtorEq, Nat.le_refl, decide_eq_true_eq, Bool.not_eq_true, decide_eq_false_iff_not, decide_not, i64_id, e, e0, ruleC]
      all_goals (clear hl hat; simp_all)
    · intro e
      simp (disch := first | assumption | omega | (simp only [go_sem]; done) | (simp only [go_sem, List.length_append, List.length_take, List.length_drop]; omega) | decide) only [go_sem, ↓reduceIte, ↓Nat.reduceEqDiff, ↓Nat.reduceAdd, ↓Nat.reduceLeDiff, ↓Nat.reduceLT, ↓Nat.reduceMul, ↓Nat.reduceSub, ↓Nat.reduceBNe, ↓Nat.reduceBEq, reduceCtorEq, Nat.le_refl, decide_eq_true_eq, Bool.not_eq_true, decide_eq_false_iff_not, decide_not, i64_id, e, e0, ruleC]
      all_goals (clear hl hat; simp_all)
    rintro ⟨tm, st, nn⟩ ⟨hn, h0, h3, h4, h5, h6, hb0, hb1⟩
    dsimp only at hn h0 h3 h4 h5 h6 hb0 hb1
    subst hn
    simp (disch := first | assumption | omega | (simp only [go_sem]; done) | (simp only [go_sem, List.length_append, List.length_take, List.length_drop]; omega) | decide) only [go_sem, ↓reduceIte, ↓Nat.reduceEqDiff, ↓Nat.reduceAdd, ↓Nat.reduceLeDiff, ↓Nat.reduceLT, ↓Nat.reduceMul, ↓Nat.reduceSub, ↓Nat.reduceBNe, ↓Nat.reduceBEq, reduceCtorEq, Nat.le_refl, decide_eq_true_eq, Bool.not_eq_true, decide_eq_false_iff_not, decide_not, i64_id, h0, h3, h4, h5, h6, hb0, hb1, e0, hl, hat, goI_succ, ruleC, c15', c33, Int.ofNat_eq_natCast, Int.cast_ofNat_Int, Int.reduceLT, Int.reduceLE, Int.reduceAdd, Int.zero_add, decide_true]
    refine if_cut (fun t => t.n = 2 ∧ t.tm.get 0 = some (.c (.t ((Sl.mk [r]).t ruleC))) ∧ t.tm.get 3 = some (V.p (.slice none 0 0)) ∧ t.tm.get 4 = some (.int .i64 0) ∧ t.tm.get 5 = some (.c (.ptr 0 0)) ∧ t.tm.get 6 = some (.c (.ptr 1 0)) ∧ t.st.get 0 = some (.box ((ruleC r).map C.t)) ∧ t.st.get 1 = some (.box [.t (.v (U32 (preA r.pa r.pl))), .t (.v (.int .i64 (preL r.pl))), .t (.v (.int .i64 (if r.lo.tmod 2 = 0 then 9 else 0))), .t (.v (.int .i64 (if r.lo.tmod 2 = 0 then 12 else 32))), .t (.v (U32 0)), .t (.v (.bool (r.rej && decide ((0 : Int) = 0)))), .t (.v (.bool r.sp)), .t (.v (U32 (if r.sp then 90 + r.pr % 30 else 0))), .t (.v (.bool r.sm)), .t (.v (U32 0)), .t (.v (.int .i64 (within r.pre 0 2))), .t (.v (U32 (r.ac % 4)))])) ?_ ?_ ?_
    · intro e
      simp (disch := first | assumption | omega | (simp only [go_sem]; done) | (simp only [go_sem, List.length_append, List.length_take, List.length_drop]; omega) | decide) only [go_sem, ↓reduceIte, ↓Nat.reduceEqDiff, ↓Nat.reduceAdd, ↓Nat.reduceLeDiff, ↓Nat.reduceLT, ↓Nat.reduceMul, ↓Nat.reduceSub, ↓Nat.reduceBNe, ↓Nat.reduceBEq, reduceCtorEq, Nat.le_refl, decide_eq_true_eq, Bool.not_eq_true, decide_eq_false_iff_not, decide_not, i64_id, e, e0, ruleC, h0, h3, h4, h5, h6, hb0, hb1]
      all_goals (clear hl hat h0 h3 h4 h5 h6 hb0 hb1; simp_all)
    · intro e
      simp (disch := first | assumption | omega | (simp only [go_sem]; done) | (simp only [go_sem, List.length_append, List.length_take, List.length_drop]; omega) | decide) only [go_sem, ↓reduceIte, ↓Nat.reduceEqDiff, ↓Nat.reduceAdd, ↓Nat.reduceLeDiff, ↓Nat.reduceLT, ↓Nat.reduceMul, ↓Nat.reduceSub, ↓Nat.reduceBNe, ↓Nat.reduceBEq, reduceCtorEq, Nat.le_refl, decide_eq_true_eq, Bool.not_eq_true, decide_eq_false_iff_not, decide_not, i64_id, e, e0, ruleC, h0, h3, h4, h5, h6, hb0, hb1]
      all_goals (clear hl hat h0 h3 h4 h5 h6 hb0 hb1; simp_all)
    clear h0 h3 h4 h5 h6 hb0 hb1
    rintro ⟨tm, st, nn⟩ ⟨hn, h0, h3, h4, h5, h6, hb0, hb1⟩
    dsimp only at hn h0 h3 h4 h5 h6 hb0 hb1
    subst hn
    simp (disch := first | assumption | omega | (simp only [go_sem]; done) | (simp only [go_sem, List.length_append, List.length_take, List.length_drop]; omega) | decide) only [go_sem, ↓reduceIte, ↓Nat.reduceEqDiff, ↓Nat.reduceAdd, ↓Nat.reduceLeDiff, ↓Nat.reduceLT, ↓Nat.reduceMul, ↓Nat.reduceSub, ↓Nat.reduceBNe, ↓Nat.reduceBEq, reduceCtorEq, Nat.le_refl, decide_eq_true_eq, Bool.not_eq_true, decide_eq_false_iff_not, decide_not, i64_id, h0, h3, h4, h5, h6, hb0, hb1, e0, hl, hat, goI_succ, ruleC, c15', c33, Int.ofNat_eq_natCast, Int.cast_ofNat_Int, Int.reduceLT, Int.reduceLE, Int.reduceAdd, Int.zero_add, decide_true]
    refine if_cut (fun t => t.n = 2 ∧ t.tm.get 0 = some (.c (.t ((Sl.mk [r]).t ruleC))) ∧ t.tm.get 3 = some (V.p (.slice none 0 0)) ∧ t.tm.get 4 = some (.int .i64 0) ∧ t.tm.get 5 = some (.c (.ptr 0 0)) ∧ t.tm.get 6 = some (.c (.ptr 1 0)) ∧ t.st.get 0 = some (.box ((ruleC r).map C.t)) ∧ t.st.get 1 = some (.box [.t (.v (U32 (preA r.pa r.pl))), .t (.v (.int .i64 (preL r.pl))), .t (.v (.int .i64 (if r.lo.tmod 2 = 0 then 9 else 0))), .t (.v (.int .i64 (if r.lo.tmod 2 = 0 then 12 else 32))), .t (.v (U32 0)), .t (.v (.bool (r.rej && decide ((0 : Int) = 0)))), .t (.v (.bool r.sp)), .t (.v (U32 (if r.sp then 90 + r.pr % 30 else 0))), .t (.v (.bool r.sm)), .t (.v (U32 (if r.sm then r.md % 4 else 0))), .t (.v (.int .i64 (within r.pre 0 2))), .t (.v (U32 (r.ac % 4)))])) ?_ ?_ ?_
    · intro e
      simp (disch := first | assumption | omega | (simp only [go_sem]; done) | (simp only [go_sem, List.length_append, List.length_take, List.length_drop]; omega) | decide) only [go_sem, ↓reduceIte, ↓Nat.reduceEqDiff, ↓Nat.reduceAdd, ↓Nat.reduceLeDiff, ↓Nat.reduceLT, ↓Nat.reduceMul, ↓Nat.reduceSub, ↓Nat.reduceBNe, ↓Nat.reduceBEq, reduceCtorEq, Nat.le_refl, decide_eq_true_eq, Bool.not_eq_true, decide_eq_false_iff_not, decide_not, i64_id, e, e0, ruleC, h0, h3, h4, h5, h6, hb0, hb1]
      all_goals (clear hl hat h0 h3 h4 h5 h6 hb0 hb1; simp_all)
    · intro e
      simp (disch := first | assumption | omega | (simp only [go_sem]; done) | (simp only [go_sem, List.length_append, List.length_take, List.length_drop]; omega) | decide) only [go_sem, ↓reduceIte, ↓Nat.reduceEqDiff, ↓Nat.reduceAdd, ↓Nat.reduceLeDiff, ↓Nat.reduceLT, ↓Nat.reduceMul, ↓Nat.reduceSub, ↓Nat.reduceBNe, ↓Nat.reduceBEq, reduceCtorEq, Nat.le_refl, decide_eq_true_eq, Bool.not_eq_true, decide_eq_false_iff_not, decide_not, i64_id, e, e0, ruleC, h0, h3, h4, h5, h6, hb0, hb1]
      all_goals (clear hl hat h0 h3 h4 h5 h6 hb0 hb1; simp_all)
    clear h0 h3 h4 h5 h6 hb0 hb1
    rintro ⟨tm, st, nn⟩ ⟨hn, h0, h3, h4, h5, h6, hb0, hb1⟩
    dsimp only at hn h0 h3 h4 h5 h6 hb0 hb1
    subst hn
    simp (disch := first | assumption | omega | (simp only [go_sem]; done) | (simp only [go_sem, List.length_append, List.length_take, List.length_drop]; omega) | decide) only [go_sem, ↓reduceIte, ↓Nat.reduceEqDiff, ↓Nat.reduceAdd, ↓Nat.reduceLeDiff, ↓Nat.reduceLT, ↓Nat.reduceMul, ↓Nat.reduceSub, ↓Nat.reduceBNe, ↓Nat.reduceBEq, reduceCtorEq, Nat.le_refl, decide_eq_true_eq, Bool.not_eq_true, decide_eq_false_iff_not, decide_not, i64_id, h0, h3, h4, h5, h6, hb0, hb1, e0, hl, hat, goI_succ, ruleC, c15', c33, Int.ofNat_eq_natCast, Int.cast_ofNat_Int, Int.reduceLT, Int.reduceLE, Int.reduceAdd, Int.zero_add, decide_true]
    refine if_cut (fun t => t.n = 2 ∧ t.tm.get 0 = some (.c (.t ((Sl.mk [r]).t ruleC))) ∧ t.tm.get 3 = some (V.p (.slice none 0 0)) ∧ t.tm.get 4 = some (.int .i64 0) ∧ t.tm.get 5 = some (.c (.ptr 0 0)) ∧ t.tm.get 6 = some (.c (.ptr 1 0)) ∧ t.st.get 0 = some (.box ((ruleC r).map C.t)) ∧ t.st.get 1 = some (.box [.t (.v (U32 (preA r.pa r.pl))), .t (.v (.int .i64 (preL r.pl))), .t (.v (.int .i64 (if r.lo.tmod 2 = 0 then 9 else 0))), .t (.v (.int .i64 (if r.lo.tmod 2 = 0 then 12 else 32))), .t (.v (U32 (if r.comm % 3 = 1 then 1 + r.comm % 4 else 0))), .t (.v (.bool (r.rej && decide ((0 : Int) = 0)))), .t (.v (.bool r.sp)), .t (.v (U32 (if r.sp then 90 + r.pr % 30 else 0))), .t (.v (.bool r.sm)), .t (.v (U32 (if r.sm then r.md % 4 else 0))), .t (.v (.int .i64 (within r.pre 0 2))), .t (.v (U32 (r.ac % 4)))])) ?_ ?_ ?_
    · intro e
      simp (disch := first | assumption | omega | (simp only [go_sem]; done) | (simp only [go_sem, List.length_append, List.length_take, List.length_drop]; omega) | decide) only [go_sem, ↓reduceIte, ↓Nat.reduceEqDiff, ↓Nat.reduceAdd, ↓Nat.reduceLeDiff, ↓Nat.reduceLT, ↓Nat.reduceMul, ↓Nat.reduceSub, ↓Nat.reduceBNe, ↓Nat.reduceBEq, reduceCtorEq, Nat.le_refl, decide_eq_true_eq, Bool.not_eq_true, decide_eq_false_iff_not, decide_not, i64_id, e, e0, ruleC, h0, h3, h4, h5, h6, hb0, hb1]
      all_goals (clear hl hat h0 h3 h4 h5 h6 hb0 hb1; simp_all)
    · intro e
      simp (disch := first | assumption | omega | (simp only [go_sem]; done) | (simp only [go_sem, List.length_append, List.length_take, List.length_drop]; omega) | decide) only [go_sem, ↓reduceIte, ↓Nat.reduceEqDiff, ↓Nat.reduceAdd, ↓Nat.reduceLeDiff, ↓Nat.reduceLT, ↓Nat.reduceMul, ↓Nat.reduceSub, ↓Nat.reduceBNe, ↓Nat.reduceBEq, reduceCtorEq, Nat.le_refl, decide_eq_true_eq, Bool.not_eq_true, decide_eq_false_iff_not, decide_not, i64_id, e, e0, ruleC, h0, h3, h4, h5, h6, hb0, hb1]
      all_goals (clear hl hat h0 h3 h4 h5 h6 hb0 hb1; simp_all)
    clear h0 h3 h4 h5 h6 hb0 hb1
    rintro ⟨tm, st, nn⟩ ⟨hn, h0, h3, h4, h5, h6, hb0, hb1⟩
    dsimp only at hn h0 h3 h4 h5 h6 hb0 hb1
    subst hn
    simp (disch := first | assumption | omega | (simp only [go_sem]; done) | (simp only [go_sem, List.length_append, List.length_take, List.length_drop]; omega) | decide) only [go_sem, ↓reduceIte, ↓Nat.reduceEqDiff, ↓Nat.reduceAdd, ↓Nat.reduceLeDiff, ↓Nat.reduceLT, ↓Nat.reduceMul, ↓Nat.reduceSub, ↓Nat.reduceBNe, ↓Nat.reduceBEq, reduceCtorEq, Nat.le_refl, decide_eq_true_eq, Bool.not_eq_true, decide_eq_false_iff_not, decide_not, i64_id, h0, h3, h4, h5, h6, hb0, hb1, e0, hl, hat, goI_succ, ruleC, c15', c33, Int.ofNat_eq_natCast, Int.cast_ofNat_Int, Int.reduceLT, Int.reduceLE, Int.reduceAdd, Int.zero_add, decide_true]
    simp [Sl.t, ruleOf, ruleC, e0]
end Go.Proofs.Ytcijgahloogooaa
