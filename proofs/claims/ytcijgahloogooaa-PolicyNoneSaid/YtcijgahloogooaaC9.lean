/- What Compact answers. -/
import Derived.Test.YtcijgahloogooaaC8
namespace Go.Proofs.Ytcijgahloogooaa
open Go Go.Proofs.Sg
set_option maxRecDepth 10000
set_option maxHeartbeats 8000000
set_option linter.unusedSimpArgs false
set_option linter.unusedVariables false
variable (m : Nat)

theorem c80 (l : List (BitVec 32)) (id nn : Nat) (st : Tr Blk) (h0 : 0 < l.length) (hl : l.length ≤ 1000000) (hst : st.get id = some (.arr 1 (l.flatMap u32c))) (hid : id < nn) :
    CompQ id nn st l (evR env (m + 1) 80 [.c (.own id 1 0 l.length)] st nn) := by
  rw [evR_go fn80 rfl]
  simp (disch := first | assumption | omega | (simp only [go_sem]; done) | (simp only [go_sem, List.length_append, List.length_take, List.length_drop]; omega) | decide) only [go_sem, ↓reduceIte, ↓Nat.reduceEqDiff, ↓Nat.reduceAdd, ↓Nat.reduceLeDiff, ↓Nat.reduceLT, ↓Nat.reduceMul, ↓Nat.reduceSub, ↓Nat.reduceBNe, ↓Nat.reduceBEq, reduceCtorEq, Nat.le_refl, decide_eq_true_eq, Bool.not_eq_true, decide_eq_false_iff_not, decide_not, i64_id, y80]
  rw [goB_dec]
  split
  · rename_i h2
    have h1 : l.length = 1 := by omega
    simp (disch := first | assumption | omega | (simp only [go_sem]; done) | (simp only [go_sem, List.length_append, List.length_take, List.length_drop]; omega) | decide) only [go_sem, ↓reduceIte, ↓Nat.reduceEqDiff, ↓Nat.reduceAdd, ↓Nat.reduceLeDiff, ↓Nat.reduceLT, ↓Nat.reduceMul, ↓Nat.reduceSub, ↓Nat.reduceBNe, ↓Nat.reduceBEq, reduceCtorEq, Nat.le_refl, decide_eq_true_eq, Bool.not_eq_true, decide_eq_false_iff_not, decide_not, i64_id]
    match l, h1 with
    | [x], _ => exact ⟨st, [x], rfl, hst, fun j _ => rfl, rfl, Nat.le_refl _⟩
  · rename_i h2
    simp (disch := first | assumption | omega | (simp only [go_sem]; done) | (simp only [go_sem, List.length_append, List.length_take, List.length_drop]; omega) | decide) only [go_sem, ↓reduceIte, ↓Nat.reduceEqDiff, ↓Nat.reduceAdd, ↓Nat.reduceLeDiff, ↓Nat.reduceLT, ↓Nat.reduceMul, ↓Nat.reduceSub, ↓Nat.reduceBNe, ↓Nat.reduceBEq, reduceCtorEq, Nat.le_refl, decide_eq_true_eq, Bool.not_eq_true, decide_eq_false_iff_not, decide_not, i64_id]
    refine loop_Q _ (fun t k => ∃ r : Nat, r + k = l.length ∧ 1 ≤ r ∧ t.n = nn ∧ t.st = st ∧ t.tm.get 0 = some (.c (.own id 1 0 l.length)) ∧ t.tm.get 3 = some (.int .i64 r) ∧ dd (l.take r) = l.take r) ?_ (l.length - 1) _ _ ?_ ?_
    rotate_left 1
    · show l.length - 1 < 1125899906842624
      omega
    · refine ⟨1, by omega, by omega, rfl, rfl, ?_, ?_, ?_⟩
      · simp (disch := first | assumption | omega | (simp only [go_sem]; done) | (simp only [go_sem, List.length_append, List.length_take, List.length_drop]; omega) | decide) only [go_sem, ↓reduceIte, ↓Nat.reduceEqDiff, ↓Nat.reduceAdd, ↓Nat.reduceLeDiff, ↓Nat.reduceLT, ↓Nat.reduceMul, ↓Nat.reduceSub, ↓Nat.reduceBNe, ↓Nat.reduceBEq, reduceCtorEq, Nat.le_refl, decide_eq_true_eq, Bool.not_eq_true, decide_eq_false_iff_not, decide_not, i64_id]
      · simp (disch := first | assumption | omega | (simp only [go_sem]; done) | (simp only [go_sem, List.length_append, List.length_take, List.length_drop]; omega) | decide) only [go_sem, ↓reduceIte, ↓Nat.reduceEqDiff, ↓Nat.reduceAdd, ↓Nat.reduceLeDiff, ↓Nat.reduceLT, ↓Nat.reduceMul, ↓Nat.reduceSub, ↓Nat.reduceBNe, ↓Nat.reduceBEq, reduceCtorEq, Nat.le_refl, decide_eq_true_eq, Bool.not_eq_true, decide_eq_false_iff_not, decide_not, i64_id]
        rfl
      · match l, h0 with
        | x :: l, _ => rfl
    · rintro k ⟨tm, st1, n1⟩ q ⟨r, hk, hr, hn, hs, h0', h3, hdd⟩ ih
      dsimp only at hn hs h0' h3
      subst hn hs
      simp (disch := first | assumption | omega | (simp only [go_sem]; done) | (simp only [go_sem, List.length_append, List.length_take, List.length_drop]; omega) | decide) only [go_sem, ↓reduceIte, ↓Nat.reduceEqDiff, ↓Nat.reduceAdd, ↓Nat.reduceLeDiff, ↓Nat.reduceLT, ↓Nat.reduceMul, ↓Nat.reduceSub, ↓Nat.reduceBNe, ↓Nat.reduceBEq, reduceCtorEq, Nat.le_refl, decide_eq_true_eq, Bool.not_eq_true, decide_eq_false_iff_not, decide_not, i64_id, neqF, nbeqF, ltT, leT, beq_self_eq_true, h0', h3]
      rw [goB_dec]
      split
      · rename_i hlt
        have hg1 := arr_get (l := l) (i := r) (by omega)
        have hg2 := arr_get (l := l) (i := r - 1) (by omega)
        have hr1 : ((r : Int) - 1).toNat = r - 1 := by omega
        have htk := take_snoc (l := l) (r := r) (by omega)
        have hlast : (l.take r).getLast? = some (l.getD (r - 1) 0) := by
          rw [show r = r - 1 + 1 by omega, take_snoc (by omega)]
          simp
        simp (disch := first | assumption | omega | (simp only [go_sem]; done) | (simp only [go_sem, List.length_append, List.length_take, List.length_drop]; omega) | decide) only [go_sem, ↓reduceIte, ↓Nat.reduceEqDiff, ↓Nat.reduceAdd, ↓Nat.reduceLeDiff, ↓Nat.reduceLT, ↓Nat.reduceMul, ↓Nat.reduceSub, ↓Nat.reduceBNe, ↓Nat.reduceBEq, reduceCtorEq, Nat.le_refl, decide_eq_true_eq, Bool.not_eq_true, decide_eq_false_iff_not, decide_not, i64_id, neqF, nbeqF, ltT, leT, beq_self_eq_true, h0', h3, hst, hg1, hg2, hr1, Int.toNat_natCast]
        rw [goB_dec]
        split
        · rename_i heq
          have hdd1 : dd (l.take (r + 1)) = l.take r := by
            rw [htk, dd_snoc, hdd, ddS, hlast, if_pos (by rw [heq])]
          simp (disch := first | assumption | omega | (simp only [go_sem]; done) | (simp only [go_sem, List.length_append, List.length_take, List.length_drop]; omega) | decide) only [go_sem, ↓reduceIte, ↓Nat.reduceEqDiff, ↓Nat.reduceAdd, ↓Nat.reduceLeDiff, ↓Nat.reduceLT, ↓Nat.reduceMul, ↓Nat.reduceSub, ↓Nat.reduceBNe, ↓Nat.reduceBEq, reduceCtorEq, Nat.le_refl, decide_eq_true_eq, Bool.not_eq_true, decide_eq_false_iff_not, decide_not, i64_id, neqF, nbeqF, ltT, leT, beq_self_eq_true, h0', h3, hst, Int.toNat_natCast]
          refine blk_cutQ _ (fun t => ∃ (w : Nat) (cur : List (BitVec 32)), t.n = n1 ∧ t.tm.get 0 = some (.c (.own id 1 0 l.length)) ∧ t.tm.get 3 = some (.int .i64 w) ∧ (∀ j, j ≠ id → t.st.get j = st1.get j) ∧ t.st.get id = some (.arr 1 (cur.flatMap u32c)) ∧ cur.length = l.length ∧ 1 ≤ w ∧ w < l.length ∧ cur.take w = dd l ∧ (dd l).length = w) ?_ ?_
          · refine loop_N (fun t k => ∃ (k2 w : Nat) (cur : List (BitVec 32)), k2 + r + k = l.length ∧ t.n = n1 ∧ t.tm.get 0 = some (.c (.own id 1 0 l.length)) ∧ t.tm.get 3 = some (.int .i64 w) ∧ t.tm.get 4 = some (.c (.own id 1 r (l.length - r))) ∧ t.tm.get 5 = some (.int .i64 k2) ∧ (∀ j, j ≠ id → t.st.get j = st1.get j) ∧ t.st.get id = some (.arr 1 (cur.flatMap u32c)) ∧ cur.length = l.length ∧ 1 ≤ k2 ∧ 1 ≤ w ∧ w + 1 ≤ r + k2 ∧ cur.take w = dd (l.take (r + k2)) ∧ (dd (l.take (r + k2))).length = w ∧ (∀ p, r + k2 - 1 ≤ p → cur.getD p 0 = l.getD p 0)) ?_ (l.length - r - 1) _ _ ?_ ?_
            rotate_left 1
            · show l.length - r - 1 < 1125899906842624
              omega
            · refine ⟨1, r, l, by omega, rfl, ?_, ?_, ?_, ?_, fun j _ => rfl, hst, rfl, by omega, hr, by omega, hdd1.symm, by rw [hdd1, List.length_take]; omega, fun p _ => rfl⟩
              · simp (disch := first | assumption | omega | (simp only [go_sem]; done) | (simp only [go_sem, List.length_append, List.length_take, List.length_drop]; omega) | decide) only [go_sem, ↓reduceIte, ↓Nat.reduceEqDiff, ↓Nat.reduceAdd, ↓Nat.reduceLeDiff, ↓Nat.reduceLT, ↓Nat.reduceMul, ↓Nat.reduceSub, ↓Nat.reduceBNe, ↓Nat.reduceBEq, reduceCtorEq, Nat.le_refl, decide_eq_true_eq, Bool.not_eq_true, decide_eq_false_iff_not, decide_not, i64_id, neqF, nbeqF, ltT, leT, beq_self_eq_true, h0']
              · simp (disch := first | assumption | omega | (simp only [go_sem]; done) | (simp only [go_sem, List.length_append, List.length_take, List.length_drop]; omega) | decide) only [go_sem, ↓reduceIte, ↓Nat.reduceEqDiff, ↓Nat.reduceAdd, ↓Nat.reduceLeDiff, ↓Nat.reduceLT, ↓Nat.reduceMul, ↓Nat.reduceSub, ↓Nat.reduceBNe, ↓Nat.reduceBEq, reduceCtorEq, Nat.le_refl, decide_eq_true_eq, Bool.not_eq_true, decide_eq_false_iff_not, decide_not, i64_id, neqF, nbeqF, ltT, leT, beq_self_eq_true, h3]
              · simp (disch := first | assumption | omega | (simp only [go_sem]; done) | (simp only [go_sem, List.length_append, List.length_take, List.length_drop]; omega) | decide) only [go_sem, ↓reduceIte, ↓Nat.reduceEqDiff, ↓Nat.reduceAdd, ↓Nat.reduceLeDiff, ↓Nat.reduceLT, ↓Nat.reduceMul, ↓Nat.reduceSub, ↓Nat.reduceBNe, ↓Nat.reduceBEq, reduceCtorEq, Nat.le_refl, decide_eq_true_eq, Bool.not_eq_true, decide_eq_false_iff_not, decide_not, i64_id, neqF, nbeqF, ltT, leT, beq_self_eq_true]
                rw [show ((l.length : Int) - r).toNat = l.length - r by omega]
              · simp (disch := first | assumption | omega | (simp only [go_sem]; done) | (simp only [go_sem, List.length_append, List.length_take, List.length_drop]; omega) | decide) only [go_sem, ↓reduceIte, ↓Nat.reduceEqDiff, ↓Nat.reduceAdd, ↓Nat.reduceLeDiff, ↓Nat.reduceLT, ↓Nat.reduceMul, ↓Nat.reduceSub, ↓Nat.reduceBNe, ↓Nat.reduceBEq, reduceCtorEq, Nat.le_refl, decide_eq_true_eq, Bool.not_eq_true, decide_eq_false_iff_not, decide_not, i64_id, neqF, nbeqF, ltT, leT, beq_self_eq_true]
                rfl
            · clear ih h0' h3
              rintro k ⟨tm, st2, n2⟩ q ⟨k2, w, cur, hk2, hn, h0', h3, h4, h5, hoth, hs, hcl, h1k, h1w, hwr, htw, hlw, hsuf⟩ ih
              dsimp only at hn h0' h3 h4 h5 hoth hs
              subst hn
              have hsub : ((l.length - r : Nat) : Int) = (l.length : Int) - r := by omega
              simp (disch := first | assumption | omega | (simp only [go_sem]; done) | (simp only [go_sem, List.length_append, List.length_take, List.length_drop]; omega) | decide) only [go_sem, ↓reduceIte, ↓Nat.reduceEqDiff, ↓Nat.reduceAdd, ↓Nat.reduceLeDiff, ↓Nat.reduceLT, ↓Nat.reduceMul, ↓Nat.reduceSub, ↓Nat.reduceBNe, ↓Nat.reduceBEq, reduceCtorEq, Nat.le_refl, decide_eq_true_eq, Bool.not_eq_true, decide_eq_false_iff_not, decide_not, i64_id, neqF, nbeqF, ltT, leT, beq_self_eq_true, h0', h3, h4, h5, hs]
              rw [goB_dec]
              split
              · rename_i hlt2
                have hg1 := arr_get (l := cur) (i := r + k2) (by omega)
                have hg2 := arr_get (l := cur) (i := r + (k2 - 1)) (by omega)
                have hr1 : ((k2 : Int) - 1).toNat = k2 - 1 := by omega
                rw [hsuf _ (by omega)] at hg1 hg2
                have htk2 := take_snoc (l := l) (r := r + k2) (by omega)
                have hdd2 : dd (l.take (r + k2 + 1)) = ddS (dd (l.take (r + k2))) (l.getD (r + k2) 0) := by rw [htk2, dd_snoc]
                have hlast2 : (dd (l.take (r + k2))).getLast? = some (l.getD (r + (k2 - 1)) 0) := by
                  rw [show r + k2 = r + (k2 - 1) + 1 by omega, take_snoc (by omega), dd_last]
                simp (disch := first | assumption | omega | (simp only [go_sem]; done) | (simp only [go_sem, List.length_append, List.length_take, List.length_drop]; omega) | decide) only [go_sem, ↓reduceIte, ↓Nat.reduceEqDiff, ↓Nat.reduceAdd, ↓Nat.reduceLeDiff, ↓Nat.reduceLT, ↓Nat.reduceMul, ↓Nat.reduceSub, ↓Nat.reduceBNe, ↓Nat.reduceBEq, reduceCtorEq, Nat.le_refl, decide_eq_true_eq, Bool.not_eq_true, decide_eq_false_iff_not, decide_not, i64_id, neqF, nbeqF, ltT, leT, beq_self_eq_true, h0', h3, h4, h5, hs, hg1, hg2, hr1, Int.toNat_natCast]
                rw [goB_ite]
                split
                · rename_i hne
                  have hne : l.getD (r + k2) 0 ≠ l.getD (r + (k2 - 1)) 0 := by simpa using hne
                  have hdd3 : dd (l.take (r + k2 + 1)) = dd (l.take (r + k2)) ++ [l.getD (r + k2) 0] := by
                    rw [hdd2, ddS, hlast2, if_neg (fun e => hne (Option.some.inj e).symm)]
                  have hst3 := vStoreB_u32 (k := n2) (id := id) (e := 1) (lk := st2.get) (l := cur) (off := w) (x := l.getD (r + k2) 0) (by omega)
                  simp (disch := first | assumption | omega | (simp only [go_sem]; done) | (simp only [go_sem, List.length_append, List.length_take, List.length_drop]; omega) | decide) only [go_sem, ↓reduceIte, ↓Nat.reduceEqDiff, ↓Nat.reduceAdd, ↓Nat.reduceLeDiff, ↓Nat.reduceLT, ↓Nat.reduceMul, ↓Nat.reduceSub, ↓Nat.reduceBNe, ↓Nat.reduceBEq, reduceCtorEq, Nat.le_refl, decide_eq_true_eq, Bool.not_eq_true, decide_eq_false_iff_not, decide_not, i64_id, neqF, nbeqF, ltT, leT, beq_self_eq_true, h0', h3, h4, h5, hs, hg1, hst3, Int.toNat_natCast]
                  refine ih (k - 1) _ (by omega) ⟨k2 + 1, w + 1, cur.set w (l.getD (r + k2) 0), by omega, rfl, ?_, ?_, ?_, ?_, ?_, ?_, ?_, by omega, by omega, by omega, ?_, ?_, ?_⟩
                  · simp (disch := first | assumption | omega | (simp only [go_sem]; done) | (simp only [go_sem, List.length_append, List.length_take, List.length_drop]; omega) | decide) only [go_sem, ↓reduceIte, ↓Nat.reduceEqDiff, ↓Nat.reduceAdd, ↓Nat.reduceLeDiff, ↓Nat.reduceLT, ↓Nat.reduceMul, ↓Nat.reduceSub, ↓Nat.reduceBNe, ↓Nat.reduceBEq, reduceCtorEq, Nat.le_refl, decide_eq_true_eq, Bool.not_eq_true, decide_eq_false_iff_not, decide_not, i64_id, neqF, nbeqF, ltT, leT, beq_self_eq_true, h0']
                  · simp (disch := first | assumption | omega | (simp only [go_sem]; done) | (simp only [go_sem, List.length_append, List.length_take, List.length_drop]; omega) | decide) only [go_sem, ↓reduceIte, ↓Nat.reduceEqDiff, ↓Nat.reduceAdd, ↓Nat.reduceLeDiff, ↓Nat.reduceLT, ↓Nat.reduceMul, ↓Nat.reduceSub, ↓Nat.reduceBNe, ↓Nat.reduceBEq, reduceCtorEq, Nat.le_refl, decide_eq_true_eq, Bool.not_eq_true, decide_eq_false_iff_not, decide_not, i64_id, neqF, nbeqF, ltT, leT, beq_self_eq_true]
                    rfl
                  · simp (disch := first | assumption | omega | (simp only [go_sem]; done) | (simp only [go_sem, List.length_append, List.length_take, List.length_drop]; omega) | decide) only [go_sem, ↓reduceIte, ↓Nat.reduceEqDiff, ↓Nat.reduceAdd, ↓Nat.reduceLeDiff, ↓Nat.reduceLT, ↓Nat.reduceMul, ↓Nat.reduceSub, ↓Nat.reduceBNe, ↓Nat.reduceBEq, reduceCtorEq, Nat.le_refl, decide_eq_true_eq, Bool.not_eq_true, decide_eq_false_iff_not, decide_not, i64_id, neqF, nbeqF, ltT, leT, beq_self_eq_true, h4]
                  · simp (disch := first | assumption | omega | (simp only [go_sem]; done) | (simp only [go_sem, List.length_append, List.length_take, List.length_drop]; omega) | decide) only [go_sem, ↓reduceIte, ↓Nat.reduceEqDiff, ↓Nat.reduceAdd, ↓Nat.reduceLeDiff, ↓Nat.reduceLT, ↓Nat.reduceMul, ↓Nat.reduceSub, ↓Nat.reduceBNe, ↓Nat.reduceBEq, reduceCtorEq, Nat.le_refl, decide_eq_true_eq, Bool.not_eq_true, decide_eq_false_iff_not, decide_not, i64_id, neqF, nbeqF, ltT, leT, beq_self_eq_true]
                    rfl
                  · intro j hj
                    simp (disch := first | assumption | omega | (simp only [go_sem]; done) | (simp only [go_sem, List.length_append, List.length_take, List.length_drop]; omega) | decide) only [go_sem, ↓reduceIte, ↓Nat.reduceEqDiff, ↓Nat.reduceAdd, ↓Nat.reduceLeDiff, ↓Nat.reduceLT, ↓Nat.reduceMul, ↓Nat.reduceSub, ↓Nat.reduceBNe, ↓Nat.reduceBEq, reduceCtorEq, Nat.le_refl, decide_eq_true_eq, Bool.not_eq_true, decide_eq_false_iff_not, decide_not, i64_id, neqF, nbeqF, ltT, leT, beq_self_eq_true, hj]
                    all_goals exact hoth j hj
                  · simp (disch := first | assumption | omega | (simp only [go_sem]; done) | (simp only [go_sem, List.length_append, List.length_take, List.length_drop]; omega) | decide) only [go_sem, ↓reduceIte, ↓Nat.reduceEqDiff, ↓Nat.reduceAdd, ↓Nat.reduceLeDiff, ↓Nat.reduceLT, ↓Nat.reduceMul, ↓Nat.reduceSub, ↓Nat.reduceBNe, ↓Nat.reduceBEq, reduceCtorEq, Nat.le_refl, decide_eq_true_eq, Bool.not_eq_true, decide_eq_false_iff_not, decide_not, i64_id, neqF, nbeqF, ltT, leT, beq_self_eq_true]
                  · rw [List.length_set, hcl]
                  · rw [show r + (k2 + 1) = r + k2 + 1 by omega, hdd3, ← htw, take_snoc (by rw [List.length_set]; omega)]
                    congr 1
                    · rw [List.take_set_of_le (Nat.le_refl _)]
                    · rw [getD_lt (by rw [List.length_set]; omega)]; simp
                  · rw [show r + (k2 + 1) = r + k2 + 1 by omega, hdd3, List.length_append, hlw]; rfl
                  · intro p hp
                    rw [List.getD_eq_getElem?_getD, List.getElem?_set_ne (by omega), ← List.getD_eq_getElem?_getD]
                    exact hsuf p (by omega)
                · rename_i hne
                  have heq2 : l.getD (r + k2) 0 = l.getD (r + (k2 - 1)) 0 := by simpa using hne
                  have hdd3 : dd (l.take (r + k2 + 1)) = dd (l.take (r + k2)) := by
                    rw [hdd2, ddS, hlast2, if_pos (by rw [heq2])]
                  simp (disch := first | assumption | omega | (simp only [go_sem]; done) | (simp only [go_sem, List.length_append, List.length_take, List.length_drop]; omega) | decide) only [go_sem, ↓reduceIte, ↓Nat.reduceEqDiff, ↓Nat.reduceAdd, ↓Nat.reduceLeDiff, ↓Nat.reduceLT, ↓Nat.reduceMul, ↓Nat.reduceSub, ↓Nat.reduceBNe, ↓Nat.reduceBEq, reduceCtorEq, Nat.le_refl, decide_eq_true_eq, Bool.not_eq_true, decide_eq_false_iff_not, decide_not, i64_id, neqF, nbeqF, ltT, leT, beq_self_eq_true, h0', h3, h4, h5, hs]
                  refine ih (k - 1) _ (by omega) ⟨k2 + 1, w, cur, by omega, rfl, ?_, ?_, ?_, ?_, hoth, hs, hcl, by omega, by omega, by omega, ?_, ?_, fun p hp => hsuf p (by omega)⟩
                  · simp (disch := first | assumption | omega | (simp only [go_sem]; done) | (simp only [go_sem, List.length_append, List.length_take, List.length_drop]; omega) | decide) only [go_sem, ↓reduceIte, ↓Nat.reduceEqDiff, ↓Nat.reduceAdd, ↓Nat.reduceLeDiff, ↓Nat.reduceLT, ↓Nat.reduceMul, ↓Nat.reduceSub, ↓Nat.reduceBNe, ↓Nat.reduceBEq, reduceCtorEq, Nat.le_refl, decide_eq_true_eq, Bool.not_eq_true, decide_eq_false_iff_not, decide_not, i64_id, neqF, nbeqF, ltT, leT, beq_self_eq_true, h0']
                  · simp (disch := first | assumption | omega | (simp only [go_sem]; done) | (simp only [go_sem, List.length_append, List.length_take, List.length_drop]; omega) | decide) only [go_sem, ↓reduceIte, ↓Nat.reduceEqDiff, ↓Nat.reduceAdd, ↓Nat.reduceLeDiff, ↓Nat.reduceLT, ↓Nat.reduceMul, ↓Nat.reduceSub, ↓Nat.reduceBNe, ↓Nat.reduceBEq, reduceCtorEq, Nat.le_refl, decide_eq_true_eq, Bool.not_eq_true, decide_eq_false_iff_not, decide_not, i64_id, neqF, nbeqF, ltT, leT, beq_self_eq_true, h3]
                  · simp (disch := first | assumption | omega | (simp only [go_sem]; done) | (simp only [go_sem, List.length_append, List.length_take, List.length_drop]; omega) | decide) only [go_sem, ↓reduceIte, ↓Nat.reduceEqDiff, ↓Nat.reduceAdd, ↓Nat.reduceLeDiff, ↓Nat.reduceLT, ↓Nat.reduceMul, ↓Nat.reduceSub, ↓Nat.reduceBNe, ↓Nat.reduceBEq, reduceCtorEq, Nat.le_refl, decide_eq_true_eq, Bool.not_eq_true, decide_eq_false_iff_not, decide_not, i64_id, neqF, nbeqF, ltT, leT, beq_self_eq_true, h4]
                  · simp (disch := first | assumption | omega | (simp only [go_sem]; done) | (simp only [go_sem, List.length_append, List.length_take, List.length_drop]; omega) | decide) only [go_sem, ↓reduceIte, ↓Nat.reduceEqDiff, ↓Nat.reduceAdd, ↓Nat.reduceLeDiff, ↓Nat.reduceLT, ↓Nat.reduceMul, ↓Nat.reduceSub, ↓Nat.reduceBNe, ↓Nat.reduceBEq, reduceCtorEq, Nat.le_refl, decide_eq_true_eq, Bool.not_eq_true, decide_eq_false_iff_not, decide_not, i64_id, neqF, nbeqF, ltT, leT, beq_self_eq_true]
                    rfl
                  · rw [show r + (k2 + 1) = r + k2 + 1 by omega, hdd3, htw]
                  · rw [show r + (k2 + 1) = r + k2 + 1 by omega, hdd3, hlw]
              · rename_i hlt2
                have hR : r + k2 = l.length := by omega
                rw [hR, List.take_length] at htw hlw
                simp (disch := first | assumption | omega | (simp only [go_sem]; done) | (simp only [go_sem, List.length_append, List.length_take, List.length_drop]; omega) | decide) only [go_sem, ↓reduceIte, ↓Nat.reduceEqDiff, ↓Nat.reduceAdd, ↓Nat.reduceLeDiff, ↓Nat.reduceLT, ↓Nat.reduceMul, ↓Nat.reduceSub, ↓Nat.reduceBNe, ↓Nat.reduceBEq, reduceCtorEq, Nat.le_refl, decide_eq_true_eq, Bool.not_eq_true, decide_eq_false_iff_not, decide_not, i64_id, neqF, nbeqF, ltT, leT, beq_self_eq_true, h0', h3, h4, h5, hs]
                exact ⟨w, cur, rfl, hoth, rfl, hcl, h1w, by omega, htw, hlw⟩
          · clear ih h0' h3
            rintro ⟨tm, st2, n2⟩ ⟨w, cur, hn, h0', h3, hoth, hs, hcl, h1w, hwl, htw, hlw⟩
            dsimp only at hn h0' h3 hoth hs
            subst hn
            have hcv := vClear_u32 (k := n2) (off := w) (len := l.length - w) hs (by omega)
            have hlw2 : ((l.length : Int) - w).toNat = l.length - w := by omega
            simp (disch := first | assumption | omega | (simp only [go_sem]; done) | (simp only [go_sem, List.length_append, List.length_take, List.length_drop]; omega) | decide) only [go_sem, ↓reduceIte, ↓Nat.reduceEqDiff, ↓Nat.reduceAdd, ↓Nat.reduceLeDiff, ↓Nat.reduceLT, ↓Nat.reduceMul, ↓Nat.reduceSub, ↓Nat.reduceBNe, ↓Nat.reduceBEq, reduceCtorEq, Nat.le_refl, decide_eq_true_eq, Bool.not_eq_true, decide_eq_false_iff_not, decide_not, i64_id, neqF, nbeqF, ltT, leT, beq_self_eq_true, h0', h3, hs, evI_clear, hlw2, hcv, Int.toNat_natCast]
            rw [show ((w : Int) - 0).toNat = w by omega, ← hlw]
            refine ⟨_, (cur.take w ++ List.replicate (l.length - w) 0), rfl, ?_, ?_, ?_, ?_⟩
            · rw [hlw, Tr.get_set, if_pos rfl]
            · intro j hj
              rw [Tr.get_set, if_neg hj]
              exact hoth j hj
            · rw [hlw, List.take_append_of_le_length (by rw [List.length_take]; omega), List.take_take, Nat.min_self, htw]
            · rw [hlw, List.length_append, List.length_take]; omega
        · rename_i hne
          have hdd1 : dd (l.take (r + 1)) = l.take (r + 1) := by
            rw [htk, dd_snoc, hdd, ddS, hlast, if_neg (fun e => hne (by simpa using e.symm))]
          simp (disch := first | assumption | omega | (simp only [go_sem]; done) | (simp only [go_sem, List.length_append, List.length_take, List.length_drop]; omega) | decide) only [go_sem, ↓reduceIte, ↓Nat.reduceEqDiff, ↓Nat.reduceAdd, ↓Nat.reduceLeDiff, ↓Nat.reduceLT, ↓Nat.reduceMul, ↓Nat.reduceSub, ↓Nat.reduceBNe, ↓Nat.reduceBEq, reduceCtorEq, Nat.le_refl, decide_eq_true_eq, Bool.not_eq_true, decide_eq_false_iff_not, decide_not, i64_id, neqF, nbeqF, ltT, leT, beq_self_eq_true, h0', h3, hst]
          refine ih (k - 1) _ (by omega) ⟨r + 1, by omega, by omega, rfl, rfl, ?_, ?_, hdd1⟩
          · simp (disch := first | assumption | omega | (simp only [go_sem]; done) | (simp only [go_sem, List.length_append, List.length_take, List.length_drop]; omega) | decide) only [go_sem, ↓reduceIte, ↓Nat.reduceEqDiff, ↓Nat.reduceAdd, ↓Nat.reduceLeDiff, ↓Nat.reduceLT, ↓Nat.reduceMul, ↓Nat.reduceSub, ↓Nat.reduceBNe, ↓Nat.reduceBEq, reduceCtorEq, Nat.le_refl, decide_eq_true_eq, Bool.not_eq_true, decide_eq_false_iff_not, decide_not, i64_id, neqF, nbeqF, ltT, leT, beq_self_eq_true, h0']
          · simp (disch := first | assumption | omega | (simp only [go_sem]; done) | (simp only [go_sem, List.length_append, List.length_take, List.length_drop]; omega) | decide) only [go_sem, ↓reduceIte, ↓Nat.reduceEqDiff, ↓Nat.reduceAdd, ↓Nat.reduceLeDiff, ↓Nat.reduceLT, ↓Nat.reduceMul, ↓Nat.reduceSub, ↓Nat.reduceBNe, ↓Nat.reduceBEq, reduceCtorEq, Nat.le_refl, decide_eq_true_eq, Bool.not_eq_true, decide_eq_false_iff_not, decide_not, i64_id, neqF, nbeqF, ltT, leT, beq_self_eq_true]
            rfl
      · rename_i hlt
        have hr : r = l.length := by omega
        rw [hr, List.take_length] at hdd
        simp (disch := first | assumption | omega | (simp only [go_sem]; done) | (simp only [go_sem, List.length_append, List.length_take, List.length_drop]; omega) | decide) only [go_sem, ↓reduceIte, ↓Nat.reduceEqDiff, ↓Nat.reduceAdd, ↓Nat.reduceLeDiff, ↓Nat.reduceLT, ↓Nat.reduceMul, ↓Nat.reduceSub, ↓Nat.reduceBNe, ↓Nat.reduceBEq, reduceCtorEq, Nat.le_refl, decide_eq_true_eq, Bool.not_eq_true, decide_eq_false_iff_not, decide_not, i64_id, neqF, nbeqF, ltT, leT, beq_self_eq_true, h0', h3]
        refine ⟨st1, l, by rw [hdd], hst, fun j _ => rfl, by rw [hdd, List.take_length], by rw [hdd]; exact Nat.le_refl _⟩
end Go.Proofs.Ytcijgahloogooaa
