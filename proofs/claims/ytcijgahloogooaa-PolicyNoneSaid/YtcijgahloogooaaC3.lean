/- What the functions of lists answer. -/
import Derived.Test.YtcijgahloogooaaC2
namespace Go.Proofs.Ytcijgahloogooaa
open Go Go.Proofs.Sg
set_option maxRecDepth 10000
set_option linter.unusedSimpArgs false
set_option linter.unusedVariables false
variable (m : Nat)

def putL (n : BitVec 32) : List (BitVec 32) → List (BitVec 32)
  | [] => [n]
  | x :: l => if x < n then x :: putL n l else if x = n then x :: l else n :: x :: l
theorem putL_len (n : BitVec 32) : ∀ l, (putL n l).length ≤ l.length + 1
  | [] => by simp [putL]
  | x :: l => by
    have := putL_len n l
    unfold putL
    split
    · simp; omega
    · split <;> simp

theorem c26 (s : Sl (BitVec 32)) (n : BitVec 32) (hs : s.l.length ≤ 1000000) : evF env (m + 1) true 26 [.c (.t (s.t u32c)), V.p (U32 n)] = some (.c (.t ((Sl.mk (putL n s.l)).t u32c)), []) := by
  rw [evF_go rfl fn26 rfl]
  simp (disch := first | assumption | omega | (simp only [go_sem]; done) | (simp only [go_sem, List.length_append, List.length_take, List.length_drop]; omega) | decide) only [go_sem, ↓reduceIte, ↓Nat.reduceEqDiff, ↓Nat.reduceAdd, ↓Nat.reduceLeDiff, ↓Nat.reduceLT, ↓Nat.reduceMul, ↓Nat.reduceSub, ↓Nat.reduceBNe, ↓Nat.reduceBEq, reduceCtorEq, Nat.le_refl, decide_eq_true_eq, Bool.not_eq_true, decide_eq_false_iff_not, decide_not, i64_id, y26]
  refine loop_F (fun t k => ∃ i : Int, i + k = s.l.length ∧ 0 ≤ i ∧ t.tm.get 0 = some (.c (.t (s.t u32c))) ∧ t.tm.get 1 = some (V.p (U32 n)) ∧ t.tm.get 5 = some (.int .i64 i) ∧ t.n = 0 ∧ putL n s.l = s.l.take i.toNat ++ putL n (s.l.drop i.toNat)) ?_ s.l.length _ _ ?_ ?_
  · rintro k ⟨tm, st, nn⟩ q ⟨i, hk, hi, h0, h1, h5, hn, he⟩ ih
    dsimp only at h0 h1 h5 hn
    subst hn
    have e0 : (0 : Nat) ≠ 1 := by decide
    simp (disch := first | assumption | omega | (simp only [go_sem]; done) | (simp only [go_sem, List.length_append, List.length_take, List.length_drop]; omega) | decide) only [go_sem, ↓reduceIte, ↓Nat.reduceEqDiff, ↓Nat.reduceAdd, ↓Nat.reduceLeDiff, ↓Nat.reduceLT, ↓Nat.reduceMul, ↓Nat.reduceSub, ↓Nat.reduceBNe, ↓Nat.reduceBEq, reduceCtorEq, Nat.le_refl, decide_eq_true_eq, Bool.not_eq_true, decide_eq_false_iff_not, decide_not, i64_id, h0, h1, h5]
    rw [goG_dec]
    split
    · rename_i hlt
      have hl0 : 0 < s.l.length := by omega
      simp (disch := first | assumption | omega | (simp only [go_sem]; done) | (simp only [go_sem, List.length_append, List.length_take, List.length_drop]; omega) | decide) only [go_sem, ↓reduceIte, ↓Nat.reduceEqDiff, ↓Nat.reduceAdd, ↓Nat.reduceLeDiff, ↓Nat.reduceLT, ↓Nat.reduceMul, ↓Nat.reduceSub, ↓Nat.reduceBNe, ↓Nat.reduceBEq, reduceCtorEq, Nat.le_refl, decide_eq_true_eq, Bool.not_eq_true, decide_eq_false_iff_not, decide_not, i64_id, h0, h1, h5, hlt, hi, u32c]
      rw [goB_dec]
      split
      · rename_i hx
        simp (disch := first | assumption | omega | (simp only [go_sem]; done) | (simp only [go_sem, List.length_append, List.length_take, List.length_drop]; omega) | decide) only [go_sem, ↓reduceIte, ↓Nat.reduceEqDiff, ↓Nat.reduceAdd, ↓Nat.reduceLeDiff, ↓Nat.reduceLT, ↓Nat.reduceMul, ↓Nat.reduceSub, ↓Nat.reduceBNe, ↓Nat.reduceBEq, reduceCtorEq, Nat.le_refl, decide_eq_true_eq, Bool.not_eq_true, decide_eq_false_iff_not, decide_not, i64_id, h0, h1, h5]
        refine ih (k - 1) _ (by omega) ⟨i + 1, by omega, by omega, ?_, ?_, ?_, rfl, ?_⟩
        · simp (disch := first | assumption | omega | (simp only [go_sem]; done) | (simp only [go_sem, List.length_append, List.length_take, List.length_drop]; omega) | decide) only [go_sem, ↓reduceIte, ↓Nat.reduceEqDiff, ↓Nat.reduceAdd, ↓Nat.reduceLeDiff, ↓Nat.reduceLT, ↓Nat.reduceMul, ↓Nat.reduceSub, ↓Nat.reduceBNe, ↓Nat.reduceBEq, reduceCtorEq, Nat.le_refl, decide_eq_true_eq, Bool.not_eq_true, decide_eq_false_iff_not, decide_not, i64_id, h0]
        · simp (disch := first | assumption | omega | (simp only [go_sem]; done) | (simp only [go_sem, List.length_append, List.length_take, List.length_drop]; omega) | decide) only [go_sem, ↓reduceIte, ↓Nat.reduceEqDiff, ↓Nat.reduceAdd, ↓Nat.reduceLeDiff, ↓Nat.reduceLT, ↓Nat.reduceMul, ↓Nat.reduceSub, ↓Nat.reduceBNe, ↓Nat.reduceBEq, reduceCtorEq, Nat.le_refl, decide_eq_true_eq, Bool.not_eq_true, decide_eq_false_iff_not, decide_not, i64_id, h1]
        · simp (disch := first | assumption | omega | (simp only [go_sem]; done) | (simp only [go_sem, List.length_append, List.length_take, List.length_drop]; omega) | decide) only [go_sem, ↓reduceIte, ↓Nat.reduceEqDiff, ↓Nat.reduceAdd, ↓Nat.reduceLeDiff, ↓Nat.reduceLT, ↓Nat.reduceMul, ↓Nat.reduceSub, ↓Nat.reduceBNe, ↓Nat.reduceBEq, reduceCtorEq, Nat.le_refl, decide_eq_true_eq, Bool.not_eq_true, decide_eq_false_iff_not, decide_not, i64_id, h5]
        · rw [he, Sl.drop_at hi hlt, putL, if_pos hx]
          rw [show (i + 1).toNat = i.toNat + 1 by omega, List.take_add_one, List.append_assoc]
          simp [Sl.at, List.getElem?_eq_getElem (show i.toNat < s.l.length by omega)]
      · rename_i hx
        rw [Sl.drop_at hi hlt, putL, if_neg hx] at he
        simp (disch := first | assumption | omega | (simp only [go_sem]; done) | (simp only [go_sem, List.length_append, List.length_take, List.length_drop]; omega) | decide) only [go_sem, ↓reduceIte, ↓Nat.reduceEqDiff, ↓Nat.reduceAdd, ↓Nat.reduceLeDiff, ↓Nat.reduceLT, ↓Nat.reduceMul, ↓Nat.reduceSub, ↓Nat.reduceBNe, ↓Nat.reduceBEq, reduceCtorEq, Nat.le_refl, decide_eq_true_eq, Bool.not_eq_true, decide_eq_false_iff_not, decide_not, i64_id, h0, h1, h5, hlt, hi, u32c]
        rw [goB_dec]
        split
        · rename_i hxn
          simp (disch := first | assumption | omega | (simp only [go_sem]; done) | (simp only [go_sem, List.length_append, List.length_take, List.length_drop]; omega) | decide) only [go_sem, ↓reduceIte, ↓Nat.reduceEqDiff, ↓Nat.reduceAdd, ↓Nat.reduceLeDiff, ↓Nat.reduceLT, ↓Nat.reduceMul, ↓Nat.reduceSub, ↓Nat.reduceBNe, ↓Nat.reduceBEq, reduceCtorEq, Nat.le_refl, decide_eq_true_eq, Bool.not_eq_true, decide_eq_false_iff_not, decide_not, i64_id, h0, h1, h5]
          rw [he, if_pos hxn, ← Sl.drop_at hi hlt, List.take_append_drop, ← Sl.eq_mk hl0]
        · rename_i hxn
          rw [if_neg hxn, ← Sl.drop_at hi hlt] at he
          by_cases hi0 : i = 0
          · subst hi0
            simp (disch := first | assumption | omega | (simp only [go_sem]; done) | (simp only [go_sem, List.length_append, List.length_take, List.length_drop]; omega) | decide) only [go_sem, ↓reduceIte, ↓Nat.reduceEqDiff, ↓Nat.reduceAdd, ↓Nat.reduceLeDiff, ↓Nat.reduceLT, ↓Nat.reduceMul, ↓Nat.reduceSub, ↓Nat.reduceBNe, ↓Nat.reduceBEq, reduceCtorEq, Nat.le_refl, decide_eq_true_eq, Bool.not_eq_true, decide_eq_false_iff_not, decide_not, i64_id, h0, h1, h5, hlt]
            simp (disch := (simp only [List.length_append, List.length_take, List.length_drop, List.length_cons, List.length_nil, len_u32]; omega)) only [List.take_of_length_le, Int.sub_zero, Int.toNat_zero, List.drop_zero]
            refine congrArg (fun t => some (V.c (C.t t), ([] : List Blk))) (sl_eq _ ?_ ?_)
            · rw [he]; simp <;> omega
            · rw [he]; simp [u32c]
          · have hti : i.toNat ≤ s.l.length := by omega
            simp (disch := first | assumption | omega | (simp only [go_sem]; done) | (simp only [go_sem, List.length_append, List.length_take, List.length_drop]; omega) | decide) only [go_sem, ↓reduceIte, ↓Nat.reduceEqDiff, ↓Nat.reduceAdd, ↓Nat.reduceLeDiff, ↓Nat.reduceLT, ↓Nat.reduceMul, ↓Nat.reduceSub, ↓Nat.reduceBNe, ↓Nat.reduceBEq, reduceCtorEq, Nat.le_refl, decide_eq_true_eq, Bool.not_eq_true, decide_eq_false_iff_not, decide_not, i64_id, h0, h1, h5, hlt, hi0]
            simp (disch := (simp only [List.length_append, List.length_take, List.length_drop, List.length_cons, List.length_nil, len_u32]; omega)) only [List.take_of_length_le, Int.sub_zero, Int.toNat_zero, List.drop_zero]
            refine congrArg (fun t => some (V.c (C.t t), ([] : List Blk))) (sl_eq _ ?_ ?_)
            · rw [he]; simp <;> omega
            · rw [he]; simp [u32c]
    · rename_i hlt
      rw [Sl.drop_end hlt, putL] at he
      have hil : i = s.l.length := by omega
      simp (disch := first | assumption | omega | (simp only [go_sem]; done) | (simp only [go_sem, List.length_append, List.length_take, List.length_drop]; omega) | decide) only [go_sem, ↓reduceIte, ↓Nat.reduceEqDiff, ↓Nat.reduceAdd, ↓Nat.reduceLeDiff, ↓Nat.reduceLT, ↓Nat.reduceMul, ↓Nat.reduceSub, ↓Nat.reduceBNe, ↓Nat.reduceBEq, reduceCtorEq, Nat.le_refl, decide_eq_true_eq, Bool.not_eq_true, decide_eq_false_iff_not, decide_not, i64_id, h0, h1, h5, hlt]
      by_cases hl0 : s.l.length = 0
      · have hi0 : i = 0 := by omega
        subst hi0
        simp (disch := first | assumption | omega | (simp only [go_sem]; done) | (simp only [go_sem, List.length_append, List.length_take, List.length_drop]; omega) | decide) only [go_sem, ↓reduceIte, ↓Nat.reduceEqDiff, ↓Nat.reduceAdd, ↓Nat.reduceLeDiff, ↓Nat.reduceLT, ↓Nat.reduceMul, ↓Nat.reduceSub, ↓Nat.reduceBNe, ↓Nat.reduceBEq, reduceCtorEq, Nat.le_refl, decide_eq_true_eq, Bool.not_eq_true, decide_eq_false_iff_not, decide_not, i64_id, h0, h1, h5, hlt, hl0]
        try simp (disch := (simp only [List.length_append, List.length_take, List.length_drop, List.length_cons, List.length_nil, len_u32]; omega)) only [List.take_of_length_le, Int.sub_zero, Int.toNat_zero, List.drop_zero]
        refine congrArg (fun t => some (V.c (C.t t), ([] : List Blk))) (sl_eq _ ?_ ?_)
        · rw [he]; simp <;> omega
        · rw [he]; simp [u32c]
      · simp (disch := first | assumption | omega | (simp only [go_sem]; done) | (simp only [go_sem, List.length_append, List.length_take, List.length_drop]; omega) | decide) only [go_sem, ↓reduceIte, ↓Nat.reduceEqDiff, ↓Nat.reduceAdd, ↓Nat.reduceLeDiff, ↓Nat.reduceLT, ↓Nat.reduceMul, ↓Nat.reduceSub, ↓Nat.reduceBNe, ↓Nat.reduceBEq, reduceCtorEq, Nat.le_refl, decide_eq_true_eq, Bool.not_eq_true, decide_eq_false_iff_not, decide_not, i64_id, h0, h1, h5, hlt, hl0]
        simp (disch := (simp only [List.length_append, List.length_take, List.length_drop, List.length_cons, List.length_nil, len_u32]; omega)) only [List.take_of_length_le, Int.sub_zero, Int.toNat_zero, List.drop_zero]
        refine congrArg (fun t => some (V.c (C.t t), ([] : List Blk))) (sl_eq _ ?_ ?_)
        · rw [he]; simp <;> omega
        · rw [he]; simp [u32c]
  · show s.l.length < 1125899906842624
    omega
  · refine ⟨0, by omega, by omega, ?_, ?_, ?_, rfl, by simp⟩ <;> simp (disch := first | assumption | omega | (simp only [go_sem]; done) | (simp only [go_sem, List.length_append, List.length_take, List.length_drop]; omega) | decide) only [go_sem, ↓reduceIte, ↓Nat.reduceEqDiff, ↓Nat.reduceAdd, ↓Nat.reduceLeDiff, ↓Nat.reduceLT, ↓Nat.reduceMul, ↓Nat.reduceSub, ↓Nat.reduceBNe, ↓Nat.reduceBEq, reduceCtorEq, Nat.le_refl, decide_eq_true_eq, Bool.not_eq_true, decide_eq_false_iff_not, decide_not, i64_id]
end Go.Proofs.Ytcijgahloogooaa
