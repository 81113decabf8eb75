/- What the functions that copy answer. -/
import Derived.Test.YtcijgahloogooaaC3
namespace Go.Proofs.Ytcijgahloogooaa
open Go Go.Proofs.Sg
set_option maxRecDepth 10000
set_option linter.unusedSimpArgs false
set_option linter.unusedVariables false
variable (m : Nat)

theorem neqF {a b : Nat} (h : a ≠ b) : (a = b) = False := eq_false h
theorem nbeqF {a b : Nat} (h : a ≠ b) : (a == b) = false := by simpa using h
theorem ltT {a b : Nat} (h : a < b) : (a < b) = True := eq_true h
theorem leT {a b : Nat} (h : a ≤ b) : (a ≤ b) = True := eq_true h
theorem len_seg {xs : List Seg} : (xs.flatMap segC).length = xs.length * 2 := by rw [fx_seg.len]
theorem len_rule {xs : List Rule} : (xs.flatMap ruleC).length = xs.length * 12 := by rw [fx_rule.len]
attribute [go_sem] len_seg len_rule

/-- The same, the numbers in new memory. -/
def hard (s : Seg) : Seg := ⟨s.kind, .mk s.al.l⟩
theorem segC_hard {x : Seg} : segC (hard x) = [.v (.int .i64 x.kind), .sl x.al.l.length (x.al.l.flatMap u32c)] := rfl
/-- A list, nil if it is empty. -/
def nilOr {α : Type} (l : List α) : Sl α := if l.length = 0 then .nil else .mk l

def wide (p : Sl Seg) : Prop := p.l.length ≤ 1000000 ∧ ∀ x ∈ p.l, x.al.l.length ≤ 1000000
theorem wide_at {p : Sl Seg} (h : wide p) {i : Int} (h0 : 0 ≤ i) (h1 : i < p.l.length) : (p.at i).al.l.length ≤ 1000000 := by
  apply h.2
  simp only [Sl.at, List.getD_eq_getElem?_getD, List.getElem?_eq_getElem (show i.toNat < p.l.length by omega), Option.getD_some]
  exact List.getElem_mem _

theorem c50 (p : Sl Seg) (hp : wide p) : evF env (m + 1) true 50 [.c (.t (p.t segC))] = some (.c (.t ((nilOr (p.l.map hard)).t segC)), []) := by
  have hp1 := hp.1
  rw [evF_go rfl fn50 rfl]
  simp (disch := first | assumption | omega | (simp only [go_sem]; done) | (simp only [go_sem, List.length_append, List.length_take, List.length_drop]; omega) | decide) only [go_sem, ↓reduceIte, ↓Nat.reduceEqDiff, ↓Nat.reduceAdd, ↓Nat.reduceLeDiff, ↓Nat.reduceLT, ↓Nat.reduceMul, ↓Nat.reduceSub, ↓Nat.reduceBNe, ↓Nat.reduceBEq, reduceCtorEq, Nat.le_refl, decide_eq_true_eq, Bool.not_eq_true, decide_eq_false_iff_not, decide_not, i64_id, y50]
  refine loop_F (fun t k => ∃ i : Int, i + k = p.l.length ∧ 0 ≤ i ∧ t.tm.get 0 = some (.c (.t (p.t segC))) ∧ t.tm.get 4 = some (.int .i64 i) ∧ ((i = 0 ∧ t.tm.get 3 = some (V.p (.slice none 0 0))) ∨ (0 < i ∧ ∃ id len, id < t.n ∧ t.tm.get 3 = some (.c (.own id 2 0 len)) ∧ t.st.get id = some (.arr 2 (((p.l.take i.toNat).map hard).flatMap segC)) ∧ len = i.toNat))) ?_ p.l.length _ _ ?_ ?_
  · rintro k ⟨tm, st, nn⟩ q ⟨i, hk, hi, h0, h4, hout⟩ ih
    dsimp only at h0 h4 hout
    simp (disch := first | assumption | omega | (simp only [go_sem]; done) | (simp only [go_sem, List.length_append, List.length_take, List.length_drop]; omega) | decide) only [go_sem, ↓reduceIte, ↓Nat.reduceEqDiff, ↓Nat.reduceAdd, ↓Nat.reduceLeDiff, ↓Nat.reduceLT, ↓Nat.reduceMul, ↓Nat.reduceSub, ↓Nat.reduceBNe, ↓Nat.reduceBEq, reduceCtorEq, Nat.le_refl, decide_eq_true_eq, Bool.not_eq_true, decide_eq_false_iff_not, decide_not, i64_id, h0, h4]
    rw [goB_dec]
    split
    · rename_i hlt
      have hal := wide_at hp hi hlt
      have htk : (p.l.take (i + 1).toNat).map hard = (p.l.take i.toNat).map hard ++ [hard (p.at i)] := by
        rw [show (i + 1).toNat = i.toNat + 1 by omega, List.take_add_one, List.map_append]
        simp [Sl.at, List.getElem?_eq_getElem (show i.toNat < p.l.length by omega)]
      by_cases hz : (p.at i).al.l.length = 0
      · have hz2 := List.length_eq_zero_iff.1 hz
        rcases hout with ⟨rfl, h3⟩ | ⟨hip, id, len, hid, h3, hst, hlen⟩
        · simp (disch := first | assumption | omega | (simp only [go_sem]; done) | (simp only [go_sem, List.length_append, List.length_take, List.length_drop]; omega) | decide) only [go_sem, ↓reduceIte, ↓Nat.reduceEqDiff, ↓Nat.reduceAdd, ↓Nat.reduceLeDiff, ↓Nat.reduceLT, ↓Nat.reduceMul, ↓Nat.reduceSub, ↓Nat.reduceBNe, ↓Nat.reduceBEq, reduceCtorEq, Nat.le_refl, decide_eq_true_eq, Bool.not_eq_true, decide_eq_false_iff_not, decide_not, i64_id, neqF, nbeqF, ltT, leT, beq_self_eq_true, h0, h4, h3, hlt, hz, segC]
          refine ih (k - 1) _ (by omega) ⟨0 + 1, by omega, by omega, ?_, ?_, .inr ⟨by omega, nn + 1 + 1, 1, ?_, ?_, ?_, ?_⟩⟩
          · simp (disch := first | assumption | omega | (simp only [go_sem]; done) | (simp only [go_sem, List.length_append, List.length_take, List.length_drop]; omega) | decide) only [go_sem, ↓reduceIte, ↓Nat.reduceEqDiff, ↓Nat.reduceAdd, ↓Nat.reduceLeDiff, ↓Nat.reduceLT, ↓Nat.reduceMul, ↓Nat.reduceSub, ↓Nat.reduceBNe, ↓Nat.reduceBEq, reduceCtorEq, Nat.le_refl, decide_eq_true_eq, Bool.not_eq_true, decide_eq_false_iff_not, decide_not, i64_id, neqF, nbeqF, ltT, leT, beq_self_eq_true, h0]
          · simp (disch := first | assumption | omega | (simp only [go_sem]; done) | (simp only [go_sem, List.length_append, List.length_take, List.length_drop]; omega) | decide) only [go_sem, ↓reduceIte, ↓Nat.reduceEqDiff, ↓Nat.reduceAdd, ↓Nat.reduceLeDiff, ↓Nat.reduceLT, ↓Nat.reduceMul, ↓Nat.reduceSub, ↓Nat.reduceBNe, ↓Nat.reduceBEq, reduceCtorEq, Nat.le_refl, decide_eq_true_eq, Bool.not_eq_true, decide_eq_false_iff_not, decide_not, i64_id, neqF, nbeqF, ltT, leT, beq_self_eq_true]
          · simp (disch := first | assumption | omega | (simp only [go_sem]; done) | (simp only [go_sem, List.length_append, List.length_take, List.length_drop]; omega) | decide) only [go_sem, ↓reduceIte, ↓Nat.reduceEqDiff, ↓Nat.reduceAdd, ↓Nat.reduceLeDiff, ↓Nat.reduceLT, ↓Nat.reduceMul, ↓Nat.reduceSub, ↓Nat.reduceBNe, ↓Nat.reduceBEq, reduceCtorEq, Nat.le_refl, decide_eq_true_eq, Bool.not_eq_true, decide_eq_false_iff_not, decide_not, i64_id, neqF, nbeqF, ltT, leT, beq_self_eq_true]
          · simp (disch := first | assumption | omega | (simp only [go_sem]; done) | (simp only [go_sem, List.length_append, List.length_take, List.length_drop]; omega) | decide) only [go_sem, ↓reduceIte, ↓Nat.reduceEqDiff, ↓Nat.reduceAdd, ↓Nat.reduceLeDiff, ↓Nat.reduceLT, ↓Nat.reduceMul, ↓Nat.reduceSub, ↓Nat.reduceBNe, ↓Nat.reduceBEq, reduceCtorEq, Nat.le_refl, decide_eq_true_eq, Bool.not_eq_true, decide_eq_false_iff_not, decide_not, i64_id, neqF, nbeqF, ltT, leT, beq_self_eq_true, h4]
          · simp (disch := first | assumption | omega | (simp only [go_sem]; done) | (simp only [go_sem, List.length_append, List.length_take, List.length_drop]; omega) | decide) only [go_sem, ↓reduceIte, ↓Nat.reduceEqDiff, ↓Nat.reduceAdd, ↓Nat.reduceLeDiff, ↓Nat.reduceLT, ↓Nat.reduceMul, ↓Nat.reduceSub, ↓Nat.reduceBNe, ↓Nat.reduceBEq, reduceCtorEq, Nat.le_refl, decide_eq_true_eq, Bool.not_eq_true, decide_eq_false_iff_not, decide_not, i64_id, neqF, nbeqF, ltT, leT, beq_self_eq_true]
            rw [htk]
            simp only [List.flatMap_append, List.flatMap_cons, List.flatMap_nil, List.append_nil, segC_hard, hz2, List.length_nil, Int.toNat_zero, List.take_zero, List.map_nil, List.nil_append]
            try simp (disch := (simp only [List.length_append, List.length_map, List.length_take, List.length_drop, List.length_cons, List.length_nil, len_u32, len_seg, len_rule]; omega)) only [List.take_of_length_le, Int.sub_zero, Int.toNat_zero, List.drop_zero]
          · omega
        · simp (disch := first | assumption | omega | (simp only [go_sem]; done) | (simp only [go_sem, List.length_append, List.length_take, List.length_drop]; omega) | decide) only [go_sem, ↓reduceIte, ↓Nat.reduceEqDiff, ↓Nat.reduceAdd, ↓Nat.reduceLeDiff, ↓Nat.reduceLT, ↓Nat.reduceMul, ↓Nat.reduceSub, ↓Nat.reduceBNe, ↓Nat.reduceBEq, reduceCtorEq, Nat.le_refl, decide_eq_true_eq, Bool.not_eq_true, decide_eq_false_iff_not, decide_not, i64_id, neqF, nbeqF, ltT, leT, beq_self_eq_true, h0, h4, h3, hst, hlen, hlt, hi, hz, segC]
          refine ih (k - 1) _ (by omega) ⟨i + 1, by omega, by omega, ?_, ?_, .inr ⟨by omega, nn + 1 + 1, i.toNat + 1, ?_, ?_, ?_, ?_⟩⟩
          · simp (disch := first | assumption | omega | (simp only [go_sem]; done) | (simp only [go_sem, List.length_append, List.length_take, List.length_drop]; omega) | decide) only [go_sem, ↓reduceIte, ↓Nat.reduceEqDiff, ↓Nat.reduceAdd, ↓Nat.reduceLeDiff, ↓Nat.reduceLT, ↓Nat.reduceMul, ↓Nat.reduceSub, ↓Nat.reduceBNe, ↓Nat.reduceBEq, reduceCtorEq, Nat.le_refl, decide_eq_true_eq, Bool.not_eq_true, decide_eq_false_iff_not, decide_not, i64_id, neqF, nbeqF, ltT, leT, beq_self_eq_true, h0]
          · simp (disch := first | assumption | omega | (simp only [go_sem]; done) | (simp only [go_sem, List.length_append, List.length_take, List.length_drop]; omega) | decide) only [go_sem, ↓reduceIte, ↓Nat.reduceEqDiff, ↓Nat.reduceAdd, ↓Nat.reduceLeDiff, ↓Nat.reduceLT, ↓Nat.reduceMul, ↓Nat.reduceSub, ↓Nat.reduceBNe, ↓Nat.reduceBEq, reduceCtorEq, Nat.le_refl, decide_eq_true_eq, Bool.not_eq_true, decide_eq_false_iff_not, decide_not, i64_id, neqF, nbeqF, ltT, leT, beq_self_eq_true]
          · simp (disch := first | assumption | omega | (simp only [go_sem]; done) | (simp only [go_sem, List.length_append, List.length_take, List.length_drop]; omega) | decide) only [go_sem, ↓reduceIte, ↓Nat.reduceEqDiff, ↓Nat.reduceAdd, ↓Nat.reduceLeDiff, ↓Nat.reduceLT, ↓Nat.reduceMul, ↓Nat.reduceSub, ↓Nat.reduceBNe, ↓Nat.reduceBEq, reduceCtorEq, Nat.le_refl, decide_eq_true_eq, Bool.not_eq_true, decide_eq_false_iff_not, decide_not, i64_id, neqF, nbeqF, ltT, leT, beq_self_eq_true]
          · simp (disch := first | assumption | omega | (simp only [go_sem]; done) | (simp only [go_sem, List.length_append, List.length_take, List.length_drop]; omega) | decide) only [go_sem, ↓reduceIte, ↓Nat.reduceEqDiff, ↓Nat.reduceAdd, ↓Nat.reduceLeDiff, ↓Nat.reduceLT, ↓Nat.reduceMul, ↓Nat.reduceSub, ↓Nat.reduceBNe, ↓Nat.reduceBEq, reduceCtorEq, Nat.le_refl, decide_eq_true_eq, Bool.not_eq_true, decide_eq_false_iff_not, decide_not, i64_id, neqF, nbeqF, ltT, leT, beq_self_eq_true, hlen]
          · simp (disch := first | assumption | omega | (simp only [go_sem]; done) | (simp only [go_sem, List.length_append, List.length_take, List.length_drop]; omega) | decide) only [go_sem, ↓reduceIte, ↓Nat.reduceEqDiff, ↓Nat.reduceAdd, ↓Nat.reduceLeDiff, ↓Nat.reduceLT, ↓Nat.reduceMul, ↓Nat.reduceSub, ↓Nat.reduceBNe, ↓Nat.reduceBEq, reduceCtorEq, Nat.le_refl, decide_eq_true_eq, Bool.not_eq_true, decide_eq_false_iff_not, decide_not, i64_id, neqF, nbeqF, ltT, leT, beq_self_eq_true]
            rw [htk]
            simp only [List.flatMap_append, List.flatMap_cons, List.flatMap_nil, List.append_nil, segC_hard, hz2, List.length_nil, hlen, Int.toNat_zero, List.take_zero, List.map_nil, List.nil_append]
            try simp (disch := (simp only [List.length_append, List.length_map, List.length_take, List.length_drop, List.length_cons, List.length_nil, len_u32, len_seg, len_rule]; omega)) only [List.take_of_length_le, Int.sub_zero, Int.toNat_zero, List.drop_zero]
          · omega
      · rcases hout with ⟨rfl, h3⟩ | ⟨hip, id, len, hid, h3, hst, hlen⟩
        · simp (disch := first | assumption | omega | (simp only [go_sem]; done) | (simp only [go_sem, List.length_append, List.length_take, List.length_drop]; omega) | decide) only [go_sem, ↓reduceIte, ↓Nat.reduceEqDiff, ↓Nat.reduceAdd, ↓Nat.reduceLeDiff, ↓Nat.reduceLT, ↓Nat.reduceMul, ↓Nat.reduceSub, ↓Nat.reduceBNe, ↓Nat.reduceBEq, reduceCtorEq, Nat.le_refl, decide_eq_true_eq, Bool.not_eq_true, decide_eq_false_iff_not, decide_not, i64_id, neqF, nbeqF, ltT, leT, beq_self_eq_true, h0, h4, h3, hlt, hz, segC]
          refine ih (k - 1) _ (by omega) ⟨0 + 1, by omega, by omega, ?_, ?_, .inr ⟨by omega, nn + 1 + 1 + 1, 1, ?_, ?_, ?_, ?_⟩⟩
          · simp (disch := first | assumption | omega | (simp only [go_sem]; done) | (simp only [go_sem, List.length_append, List.length_take, List.length_drop]; omega) | decide) only [go_sem, ↓reduceIte, ↓Nat.reduceEqDiff, ↓Nat.reduceAdd, ↓Nat.reduceLeDiff, ↓Nat.reduceLT, ↓Nat.reduceMul, ↓Nat.reduceSub, ↓Nat.reduceBNe, ↓Nat.reduceBEq, reduceCtorEq, Nat.le_refl, decide_eq_true_eq, Bool.not_eq_true, decide_eq_false_iff_not, decide_not, i64_id, neqF, nbeqF, ltT, leT, beq_self_eq_true, h0]
          · simp (disch := first | assumption | omega | (simp only [go_sem]; done) | (simp only [go_sem, List.length_append, List.length_take, List.length_drop]; omega) | decide) only [go_sem, ↓reduceIte, ↓Nat.reduceEqDiff, ↓Nat.reduceAdd, ↓Nat.reduceLeDiff, ↓Nat.reduceLT, ↓Nat.reduceMul, ↓Nat.reduceSub, ↓Nat.reduceBNe, ↓Nat.reduceBEq, reduceCtorEq, Nat.le_refl, decide_eq_true_eq, Bool.not_eq_true, decide_eq_false_iff_not, decide_not, i64_id, neqF, nbeqF, ltT, leT, beq_self_eq_true]
          · simp (disch := first | assumption | omega | (simp only [go_sem]; done) | (simp only [go_sem, List.length_append, List.length_take, List.length_drop]; omega) | decide) only [go_sem, ↓reduceIte, ↓Nat.reduceEqDiff, ↓Nat.reduceAdd, ↓Nat.reduceLeDiff, ↓Nat.reduceLT, ↓Nat.reduceMul, ↓Nat.reduceSub, ↓Nat.reduceBNe, ↓Nat.reduceBEq, reduceCtorEq, Nat.le_refl, decide_eq_true_eq, Bool.not_eq_true, decide_eq_false_iff_not, decide_not, i64_id, neqF, nbeqF, ltT, leT, beq_self_eq_true]
          · simp (disch := first | assumption | omega | (simp only [go_sem]; done) | (simp only [go_sem, List.length_append, List.length_take, List.length_drop]; omega) | decide) only [go_sem, ↓reduceIte, ↓Nat.reduceEqDiff, ↓Nat.reduceAdd, ↓Nat.reduceLeDiff, ↓Nat.reduceLT, ↓Nat.reduceMul, ↓Nat.reduceSub, ↓Nat.reduceBNe, ↓Nat.reduceBEq, reduceCtorEq, Nat.le_refl, decide_eq_true_eq, Bool.not_eq_true, decide_eq_false_iff_not, decide_not, i64_id, neqF, nbeqF, ltT, leT, beq_self_eq_true, h4]
          · simp (disch := first | assumption | omega | (simp only [go_sem]; done) | (simp only [go_sem, List.length_append, List.length_take, List.length_drop]; omega) | decide) only [go_sem, ↓reduceIte, ↓Nat.reduceEqDiff, ↓Nat.reduceAdd, ↓Nat.reduceLeDiff, ↓Nat.reduceLT, ↓Nat.reduceMul, ↓Nat.reduceSub, ↓Nat.reduceBNe, ↓Nat.reduceBEq, reduceCtorEq, Nat.le_refl, decide_eq_true_eq, Bool.not_eq_true, decide_eq_false_iff_not, decide_not, i64_id, neqF, nbeqF, ltT, leT, beq_self_eq_true]
            rw [htk]
            simp only [List.flatMap_append, List.flatMap_cons, List.flatMap_nil, List.append_nil, segC_hard, List.length_nil, Int.toNat_zero, List.take_zero, List.map_nil, List.nil_append]
            try simp (disch := (simp only [List.length_append, List.length_map, List.length_take, List.length_drop, List.length_cons, List.length_nil, len_u32, len_seg, len_rule]; omega)) only [List.take_of_length_le, Int.sub_zero, Int.toNat_zero, List.drop_zero]
          · omega
        · simp (disch := first | assumption | omega | (simp only [go_sem]; done) | (simp only [go_sem, List.length_append, List.length_take, List.length_drop]; omega) | decide) only [go_sem, ↓reduceIte, ↓Nat.reduceEqDiff, ↓Nat.reduceAdd, ↓Nat.reduceLeDiff, ↓Nat.reduceLT, ↓Nat.reduceMul, ↓Nat.reduceSub, ↓Nat.reduceBNe, ↓Nat.reduceBEq, reduceCtorEq, Nat.le_refl, decide_eq_true_eq, Bool.not_eq_true, decide_eq_false_iff_not, decide_not, i64_id, neqF, nbeqF, ltT, leT, beq_self_eq_true, h0, h4, h3, hst, hlen, hlt, hi, hz, segC]
          refine ih (k - 1) _ (by omega) ⟨i + 1, by omega, by omega, ?_, ?_, .inr ⟨by omega, nn + 1 + 1 + 1, i.toNat + 1, ?_, ?_, ?_, ?_⟩⟩
          · simp (disch := first | assumption | omega | (simp only [go_sem]; done) | (simp only [go_sem, List.length_append, List.length_take, List.length_drop]; omega) | decide) only [go_sem, ↓reduceIte, ↓Nat.reduceEqDiff, ↓Nat.reduceAdd, ↓Nat.reduceLeDiff, ↓Nat.reduceLT, ↓Nat.reduceMul, ↓Nat.reduceSub, ↓Nat.reduceBNe, ↓Nat.reduceBEq, reduceCtorEq, Nat.le_refl, decide_eq_true_eq, Bool.not_eq_true, decide_eq_false_iff_not, decide_not, i64_id, neqF, nbeqF, ltT, leT, beq_self_eq_true, h0]
          · simp (disch := first | assumption | omega | (simp only [go_sem]; done) | (simp only [go_sem, List.length_append, List.length_take, List.length_drop]; omega) | decide) only [go_sem, ↓reduceIte, ↓Nat.reduceEqDiff, ↓Nat.reduceAdd, ↓Nat.reduceLeDiff, ↓Nat.reduceLT, ↓Nat.reduceMul, ↓Nat.reduceSub, ↓Nat.reduceBNe, ↓Nat.reduceBEq, reduceCtorEq, Nat.le_refl, decide_eq_true_eq, Bool.not_eq_true, decide_eq_false_iff_not, decide_not, i64_id, neqF, nbeqF, ltT, leT, beq_self_eq_true]
          · simp (disch := first | assumption | omega | (simp only [go_sem]; done) | (simp only [go_sem, List.length_append, List.length_take, List.length_drop]; omega) | decide) only [go_sem, ↓reduceIte, ↓Nat.reduceEqDiff, ↓Nat.reduceAdd, ↓Nat.reduceLeDiff, ↓Nat.reduceLT, ↓Nat.reduceMul, ↓Nat.reduceSub, ↓Nat.reduceBNe, ↓Nat.reduceBEq, reduceCtorEq, Nat.le_refl, decide_eq_true_eq, Bool.not_eq_true, decide_eq_false_iff_not, decide_not, i64_id, neqF, nbeqF, ltT, leT, beq_self_eq_true]
          · simp (disch := first | assumption | omega | (simp only [go_sem]; done) | (simp only [go_sem, List.length_append, List.length_take, List.length_drop]; omega) | decide) only [go_sem, ↓reduceIte, ↓Nat.reduceEqDiff, ↓Nat.reduceAdd, ↓Nat.reduceLeDiff, ↓Nat.reduceLT, ↓Nat.reduceMul, ↓Nat.reduceSub, ↓Nat.reduceBNe, ↓Nat.reduceBEq, reduceCtorEq, Nat.le_refl, decide_eq_true_eq, Bool.not_eq_true, decide_eq_false_iff_not, decide_not, i64_id, neqF, nbeqF, ltT, leT, beq_self_eq_true, hlen]
          · simp (disch := first | assumption | omega | (simp only [go_sem]; done) | (simp only [go_sem, List.length_append, List.length_take, List.length_drop]; omega) | decide) only [go_sem, ↓reduceIte, ↓Nat.reduceEqDiff, ↓Nat.reduceAdd, ↓Nat.reduceLeDiff, ↓Nat.reduceLT, ↓Nat.reduceMul, ↓Nat.reduceSub, ↓Nat.reduceBNe, ↓Nat.reduceBEq, reduceCtorEq, Nat.le_refl, decide_eq_true_eq, Bool.not_eq_true, decide_eq_false_iff_not, decide_not, i64_id, neqF, nbeqF, ltT, leT, beq_self_eq_true]
            rw [htk]
            simp only [List.flatMap_append, List.flatMap_cons, List.flatMap_nil, List.append_nil, segC_hard, List.length_nil, hlen, Int.toNat_zero, List.take_zero, List.map_nil, List.nil_append]
            try simp (disch := (simp only [List.length_append, List.length_map, List.length_take, List.length_drop, List.length_cons, List.length_nil, len_u32, len_seg, len_rule]; omega)) only [List.take_of_length_le, Int.sub_zero, Int.toNat_zero, List.drop_zero]
          · omega
    · rename_i hlt
      have hik : i.toNat = p.l.length := by omega
      rcases hout with ⟨rfl, h3⟩ | ⟨hip, id, len, hid, h3, hst, hlen⟩
      · simp (disch := first | assumption | omega | (simp only [go_sem]; done) | (simp only [go_sem, List.length_append, List.length_take, List.length_drop]; omega) | decide) only [go_sem, ↓reduceIte, ↓Nat.reduceEqDiff, ↓Nat.reduceAdd, ↓Nat.reduceLeDiff, ↓Nat.reduceLT, ↓Nat.reduceMul, ↓Nat.reduceSub, ↓Nat.reduceBNe, ↓Nat.reduceBEq, reduceCtorEq, Nat.le_refl, decide_eq_true_eq, Bool.not_eq_true, decide_eq_false_iff_not, decide_not, i64_id, neqF, nbeqF, ltT, leT, beq_self_eq_true, h0, h4, h3, hlt]
        rw [nilOr, if_pos (by rw [List.length_map]; omega)]
        rfl
      · simp (disch := first | assumption | omega | (simp only [go_sem]; done) | (simp only [go_sem, List.length_append, List.length_take, List.length_drop]; omega) | decide) only [go_sem, ↓reduceIte, ↓Nat.reduceEqDiff, ↓Nat.reduceAdd, ↓Nat.reduceLeDiff, ↓Nat.reduceLT, ↓Nat.reduceMul, ↓Nat.reduceSub, ↓Nat.reduceBNe, ↓Nat.reduceBEq, reduceCtorEq, Nat.le_refl, decide_eq_true_eq, Bool.not_eq_true, decide_eq_false_iff_not, decide_not, i64_id, neqF, nbeqF, ltT, leT, beq_self_eq_true, h0, h4, h3, hst, hlen, hlt]
        rw [nilOr, if_neg (by rw [List.length_map]; omega)]
        refine congrArg (fun t => some (V.c (C.t t), ([] : List Blk))) (sl_eq _ ?_ ?_)
        · rw [List.length_map]; omega
        · rw [hik, List.take_length]
          simp (disch := (simp only [List.length_append, List.length_map, List.length_take, List.length_drop, List.length_cons, List.length_nil, len_u32, len_seg, len_rule]; omega)) only [List.take_of_length_le, Int.sub_zero, Int.toNat_zero, List.drop_zero]
  · show p.l.length < 1125899906842624
    omega
  · refine ⟨0, by omega, by omega, ?_, ?_, .inl ⟨rfl, ?_⟩⟩ <;> simp (disch := first | assumption | omega | (simp only [go_sem]; done) | (simp only [go_sem, List.length_append, List.length_take, List.length_drop]; omega) | decide) only [go_sem, ↓reduceIte, ↓Nat.reduceEqDiff, ↓Nat.reduceAdd, ↓Nat.reduceLeDiff, ↓Nat.reduceLT, ↓Nat.reduceMul, ↓Nat.reduceSub, ↓Nat.reduceBNe, ↓Nat.reduceBEq, reduceCtorEq, Nat.le_refl, decide_eq_true_eq, Bool.not_eq_true, decide_eq_false_iff_not, decide_not, i64_id]

theorem c79 (p : Sl Seg) (hp : wide p) : evF env (m + 2) true 79 [.c (.t (p.t segC))] = some (.c (.t ((nilOr p.l).t segC)), []) := by
  have hp1 := hp.1
  rw [evF_go rfl fn79 rfl]
  simp (disch := first | assumption | omega | (simp only [go_sem]; done) | (simp only [go_sem, List.length_append, List.length_take, List.length_drop]; omega) | decide) only [go_sem, ↓reduceIte, ↓Nat.reduceEqDiff, ↓Nat.reduceAdd, ↓Nat.reduceLeDiff, ↓Nat.reduceLT, ↓Nat.reduceMul, ↓Nat.reduceSub, ↓Nat.reduceBNe, ↓Nat.reduceBEq, reduceCtorEq, Nat.le_refl, decide_eq_true_eq, Bool.not_eq_true, decide_eq_false_iff_not, decide_not, i64_id, y79]
  refine loop_F (fun t k => ∃ i : Int, i + k = p.l.length ∧ 0 ≤ i ∧ t.tm.get 6 = some (.c (.t (p.t segC))) ∧ t.tm.get 7 = some (.int .i64 p.l.length) ∧ t.tm.get 8 = some (.int .i64 i) ∧ ((i = 0 ∧ t.tm.get 3 = some (V.p (.slice none 0 0))) ∨ (0 < i ∧ ∃ id len, id < t.n ∧ t.tm.get 3 = some (.c (.own id 2 0 len)) ∧ t.st.get id = some (.arr 2 ((p.l.take i.toNat).flatMap segC)) ∧ len = i.toNat))) ?_ p.l.length _ _ ?_ ?_
  · rintro k ⟨tm, st, nn⟩ q ⟨i, hk, hi, h6, h7, h8, hout⟩ ih
    dsimp only at h6 h7 h8 hout
    have h0 := h6
    simp (disch := first | assumption | omega | (simp only [go_sem]; done) | (simp only [go_sem, List.length_append, List.length_take, List.length_drop]; omega) | decide) only [go_sem, ↓reduceIte, ↓Nat.reduceEqDiff, ↓Nat.reduceAdd, ↓Nat.reduceLeDiff, ↓Nat.reduceLT, ↓Nat.reduceMul, ↓Nat.reduceSub, ↓Nat.reduceBNe, ↓Nat.reduceBEq, reduceCtorEq, Nat.le_refl, decide_eq_true_eq, Bool.not_eq_true, decide_eq_false_iff_not, decide_not, i64_id, h6, h7, h8]
    rw [goB_dec]
    split
    · rename_i hlt
      have hal := wide_at hp hi hlt
      have htk : p.l.take (i + 1).toNat = p.l.take i.toNat ++ [p.at i] := by
        rw [show (i + 1).toNat = i.toNat + 1 by omega, List.take_add_one]
        simp [Sl.at, List.getElem?_eq_getElem (show i.toNat < p.l.length by omega)]
      rcases hout with ⟨rfl, h3⟩ | ⟨hip, id, len, hid, h3, hst, hlen⟩
      · simp (disch := first | assumption | omega | (simp only [go_sem]; done) | (simp only [go_sem, List.length_append, List.length_take, List.length_drop]; omega) | decide) only [go_sem, ↓reduceIte, ↓Nat.reduceEqDiff, ↓Nat.reduceAdd, ↓Nat.reduceLeDiff, ↓Nat.reduceLT, ↓Nat.reduceMul, ↓Nat.reduceSub, ↓Nat.reduceBNe, ↓Nat.reduceBEq, reduceCtorEq, Nat.le_refl, decide_eq_true_eq, Bool.not_eq_true, decide_eq_false_iff_not, decide_not, i64_id, neqF, nbeqF, ltT, leT, beq_self_eq_true, h0, h6, h7, h8, h3, hlt, segC, c120, hal]
        refine ih (k - 1) _ (by omega) ⟨0 + 1, by omega, by omega, ?_, ?_, ?_, .inr ⟨by omega, nn + 1 + 1, 1, ?_, ?_, ?_, ?_⟩⟩
        · simp (disch := first | assumption | omega | (simp only [go_sem]; done) | (simp only [go_sem, List.length_append, List.length_take, List.length_drop]; omega) | decide) only [go_sem, ↓reduceIte, ↓Nat.reduceEqDiff, ↓Nat.reduceAdd, ↓Nat.reduceLeDiff, ↓Nat.reduceLT, ↓Nat.reduceMul, ↓Nat.reduceSub, ↓Nat.reduceBNe, ↓Nat.reduceBEq, reduceCtorEq, Nat.le_refl, decide_eq_true_eq, Bool.not_eq_true, decide_eq_false_iff_not, decide_not, i64_id, neqF, nbeqF, ltT, leT, beq_self_eq_true, h6]
        · simp (disch := first | assumption | omega | (simp only [go_sem]; done) | (simp only [go_sem, List.length_append, List.length_take, List.length_drop]; omega) | decide) only [go_sem, ↓reduceIte, ↓Nat.reduceEqDiff, ↓Nat.reduceAdd, ↓Nat.reduceLeDiff, ↓Nat.reduceLT, ↓Nat.reduceMul, ↓Nat.reduceSub, ↓Nat.reduceBNe, ↓Nat.reduceBEq, reduceCtorEq, Nat.le_refl, decide_eq_true_eq, Bool.not_eq_true, decide_eq_false_iff_not, decide_not, i64_id, neqF, nbeqF, ltT, leT, beq_self_eq_true, h7]
        · simp (disch := first | assumption | omega | (simp only [go_sem]; done) | (simp only [go_sem, List.length_append, List.length_take, List.length_drop]; omega) | decide) only [go_sem, ↓reduceIte, ↓Nat.reduceEqDiff, ↓Nat.reduceAdd, ↓Nat.reduceLeDiff, ↓Nat.reduceLT, ↓Nat.reduceMul, ↓Nat.reduceSub, ↓Nat.reduceBNe, ↓Nat.reduceBEq, reduceCtorEq, Nat.le_refl, decide_eq_true_eq, Bool.not_eq_true, decide_eq_false_iff_not, decide_not, i64_id, neqF, nbeqF, ltT, leT, beq_self_eq_true]
        · simp (disch := first | assumption | omega | (simp only [go_sem]; done) | (simp only [go_sem, List.length_append, List.length_take, List.length_drop]; omega) | decide) only [go_sem, ↓reduceIte, ↓Nat.reduceEqDiff, ↓Nat.reduceAdd, ↓Nat.reduceLeDiff, ↓Nat.reduceLT, ↓Nat.reduceMul, ↓Nat.reduceSub, ↓Nat.reduceBNe, ↓Nat.reduceBEq, reduceCtorEq, Nat.le_refl, decide_eq_true_eq, Bool.not_eq_true, decide_eq_false_iff_not, decide_not, i64_id, neqF, nbeqF, ltT, leT, beq_self_eq_true]
        · simp (disch := first | assumption | omega | (simp only [go_sem]; done) | (simp only [go_sem, List.length_append, List.length_take, List.length_drop]; omega) | decide) only [go_sem, ↓reduceIte, ↓Nat.reduceEqDiff, ↓Nat.reduceAdd, ↓Nat.reduceLeDiff, ↓Nat.reduceLT, ↓Nat.reduceMul, ↓Nat.reduceSub, ↓Nat.reduceBNe, ↓Nat.reduceBEq, reduceCtorEq, Nat.le_refl, decide_eq_true_eq, Bool.not_eq_true, decide_eq_false_iff_not, decide_not, i64_id, neqF, nbeqF, ltT, leT, beq_self_eq_true, h3]
        · simp (disch := first | assumption | omega | (simp only [go_sem]; done) | (simp only [go_sem, List.length_append, List.length_take, List.length_drop]; omega) | decide) only [go_sem, ↓reduceIte, ↓Nat.reduceEqDiff, ↓Nat.reduceAdd, ↓Nat.reduceLeDiff, ↓Nat.reduceLT, ↓Nat.reduceMul, ↓Nat.reduceSub, ↓Nat.reduceBNe, ↓Nat.reduceBEq, reduceCtorEq, Nat.le_refl, decide_eq_true_eq, Bool.not_eq_true, decide_eq_false_iff_not, decide_not, i64_id, neqF, nbeqF, ltT, leT, beq_self_eq_true]
          rw [htk]
          simp only [List.flatMap_append, List.flatMap_cons, List.flatMap_nil, List.append_nil, segC, List.length_nil, Int.toNat_zero, List.take_zero, List.map_nil, List.nil_append]
          try simp (disch := (simp only [List.length_append, List.length_map, List.length_take, List.length_drop, List.length_cons, List.length_nil, len_u32, len_seg, len_rule]; omega)) only [List.take_of_length_le, Int.sub_zero, Int.toNat_zero, List.drop_zero]
        · omega
      · simp (disch := first | assumption | omega | (simp only [go_sem]; done) | (simp only [go_sem, List.length_append, List.length_take, List.length_drop]; omega) | decide) only [go_sem, ↓reduceIte, ↓Nat.reduceEqDiff, ↓Nat.reduceAdd, ↓Nat.reduceLeDiff, ↓Nat.reduceLT, ↓Nat.reduceMul, ↓Nat.reduceSub, ↓Nat.reduceBNe, ↓Nat.reduceBEq, reduceCtorEq, Nat.le_refl, decide_eq_true_eq, Bool.not_eq_true, decide_eq_false_iff_not, decide_not, i64_id, neqF, nbeqF, ltT, leT, beq_self_eq_true, h0, h6, h7, h8, h3, hst, hlen, hlt, hi, segC, c120, hal]
        refine ih (k - 1) _ (by omega) ⟨i + 1, by omega, by omega, ?_, ?_, ?_, .inr ⟨by omega, nn + 1 + 1, i.toNat + 1, ?_, ?_, ?_, ?_⟩⟩
        · simp (disch := first | assumption | omega | (simp only [go_sem]; done) | (simp only [go_sem, List.length_append, List.length_take, List.length_drop]; omega) | decide) only [go_sem, ↓reduceIte, ↓Nat.reduceEqDiff, ↓Nat.reduceAdd, ↓Nat.reduceLeDiff, ↓Nat.reduceLT, ↓Nat.reduceMul, ↓Nat.reduceSub, ↓Nat.reduceBNe, ↓Nat.reduceBEq, reduceCtorEq, Nat.le_refl, decide_eq_true_eq, Bool.not_eq_true, decide_eq_false_iff_not, decide_not, i64_id, neqF, nbeqF, ltT, leT, beq_self_eq_true, h6]
        · simp (disch := first | assumption | omega | (simp only [go_sem]; done) | (simp only [go_sem, List.length_append, List.length_take, List.length_drop]; omega) | decide) only [go_sem, ↓reduceIte, ↓Nat.reduceEqDiff, ↓Nat.reduceAdd, ↓Nat.reduceLeDiff, ↓Nat.reduceLT, ↓Nat.reduceMul, ↓Nat.reduceSub, ↓Nat.reduceBNe, ↓Nat.reduceBEq, reduceCtorEq, Nat.le_refl, decide_eq_true_eq, Bool.not_eq_true, decide_eq_false_iff_not, decide_not, i64_id, neqF, nbeqF, ltT, leT, beq_self_eq_true, h7]
        · simp (disch := first | assumption | omega | (simp only [go_sem]; done) | (simp only [go_sem, List.length_append, List.length_take, List.length_drop]; omega) | decide) only [go_sem, ↓reduceIte, ↓Nat.reduceEqDiff, ↓Nat.reduceAdd, ↓Nat.reduceLeDiff, ↓Nat.reduceLT, ↓Nat.reduceMul, ↓Nat.reduceSub, ↓Nat.reduceBNe, ↓Nat.reduceBEq, reduceCtorEq, Nat.le_refl, decide_eq_true_eq, Bool.not_eq_true, decide_eq_false_iff_not, decide_not, i64_id, neqF, nbeqF, ltT, leT, beq_self_eq_true]
        · simp (disch := first | assumption | omega | (simp only [go_sem]; done) | (simp only [go_sem, List.length_append, List.length_take, List.length_drop]; omega) | decide) only [go_sem, ↓reduceIte, ↓Nat.reduceEqDiff, ↓Nat.reduceAdd, ↓Nat.reduceLeDiff, ↓Nat.reduceLT, ↓Nat.reduceMul, ↓Nat.reduceSub, ↓Nat.reduceBNe, ↓Nat.reduceBEq, reduceCtorEq, Nat.le_refl, decide_eq_true_eq, Bool.not_eq_true, decide_eq_false_iff_not, decide_not, i64_id, neqF, nbeqF, ltT, leT, beq_self_eq_true]
        · simp (disch := first | assumption | omega | (simp only [go_sem]; done) | (simp only [go_sem, List.length_append, List.length_take, List.length_drop]; omega) | decide) only [go_sem, ↓reduceIte, ↓Nat.reduceEqDiff, ↓Nat.reduceAdd, ↓Nat.reduceLeDiff, ↓Nat.reduceLT, ↓Nat.reduceMul, ↓Nat.reduceSub, ↓Nat.reduceBNe, ↓Nat.reduceBEq, reduceCtorEq, Nat.le_refl, decide_eq_true_eq, Bool.not_eq_true, decide_eq_false_iff_not, decide_not, i64_id, neqF, nbeqF, ltT, leT, beq_self_eq_true, hlen]
        · simp (disch := first | assumption | omega | (simp only [go_sem]; done) | (simp only [go_sem, List.length_append, List.length_take, List.length_drop]; omega) | decide) only [go_sem, ↓reduceIte, ↓Nat.reduceEqDiff, ↓Nat.reduceAdd, ↓Nat.reduceLeDiff, ↓Nat.reduceLT, ↓Nat.reduceMul, ↓Nat.reduceSub, ↓Nat.reduceBNe, ↓Nat.reduceBEq, reduceCtorEq, Nat.le_refl, decide_eq_true_eq, Bool.not_eq_true, decide_eq_false_iff_not, decide_not, i64_id, neqF, nbeqF, ltT, leT, beq_self_eq_true]
          rw [htk]
          simp only [List.flatMap_append, List.flatMap_cons, List.flatMap_nil, List.append_nil, segC, List.length_nil, hlen, Int.toNat_zero, List.take_zero, List.map_nil, List.nil_append]
          try simp (disch := (simp only [List.length_append, List.length_map, List.length_take, List.length_drop, List.length_cons, List.length_nil, len_u32, len_seg, len_rule]; omega)) only [List.take_of_length_le, Int.sub_zero, Int.toNat_zero, List.drop_zero]
        · omega
    · rename_i hlt
      have hik : i.toNat = p.l.length := by omega
      rcases hout with ⟨rfl, h3⟩ | ⟨hip, id, len, hid, h3, hst, hlen⟩
      · simp (disch := first | assumption | omega | (simp only [go_sem]; done) | (simp only [go_sem, List.length_append, List.length_take, List.length_drop]; omega) | decide) only [go_sem, ↓reduceIte, ↓Nat.reduceEqDiff, ↓Nat.reduceAdd, ↓Nat.reduceLeDiff, ↓Nat.reduceLT, ↓Nat.reduceMul, ↓Nat.reduceSub, ↓Nat.reduceBNe, ↓Nat.reduceBEq, reduceCtorEq, Nat.le_refl, decide_eq_true_eq, Bool.not_eq_true, decide_eq_false_iff_not, decide_not, i64_id, neqF, nbeqF, ltT, leT, beq_self_eq_true, h6, h7, h8, h3, hlt]
        rw [nilOr, if_pos (by omega)]
        rfl
      · simp (disch := first | assumption | omega | (simp only [go_sem]; done) | (simp only [go_sem, List.length_append, List.length_take, List.length_drop]; omega) | decide) only [go_sem, ↓reduceIte, ↓Nat.reduceEqDiff, ↓Nat.reduceAdd, ↓Nat.reduceLeDiff, ↓Nat.reduceLT, ↓Nat.reduceMul, ↓Nat.reduceSub, ↓Nat.reduceBNe, ↓Nat.reduceBEq, reduceCtorEq, Nat.le_refl, decide_eq_true_eq, Bool.not_eq_true, decide_eq_false_iff_not, decide_not, i64_id, neqF, nbeqF, ltT, leT, beq_self_eq_true, h6, h7, h8, h3, hst, hlen, hlt]
        rw [nilOr, if_neg (by omega)]
        refine congrArg (fun t => some (V.c (C.t t), ([] : List Blk))) (sl_eq _ ?_ ?_)
        · omega
        · rw [hik, List.take_length]
          simp (disch := (simp only [List.length_append, List.length_map, List.length_take, List.length_drop, List.length_cons, List.length_nil, len_u32, len_seg, len_rule]; omega)) only [List.take_of_length_le, Int.sub_zero, Int.toNat_zero, List.drop_zero]
  · show p.l.length < 1125899906842624
    omega
  · refine ⟨0, by omega, by omega, ?_, ?_, ?_, .inl ⟨rfl, ?_⟩⟩ <;> simp (disch := first | assumption | omega | (simp only [go_sem]; done) | (simp only [go_sem, List.length_append, List.length_take, List.length_drop]; omega) | decide) only [go_sem, ↓reduceIte, ↓Nat.reduceEqDiff, ↓Nat.reduceAdd, ↓Nat.reduceLeDiff, ↓Nat.reduceLT, ↓Nat.reduceMul, ↓Nat.reduceSub, ↓Nat.reduceBNe, ↓Nat.reduceBEq, reduceCtorEq, Nat.le_refl, decide_eq_true_eq, Bool.not_eq_true, decide_eq_false_iff_not, decide_not, i64_id]

/-- Rising numbers, each once. -/
def canL (l : List (BitVec 32)) : List (BitVec 32) := l.foldl (fun c x => putL x c) []
theorem canL_take {s : Sl (BitVec 32)} {i : Int} (h0 : 0 ≤ i) (h1 : i < s.l.length) : canL (s.l.take (i + 1).toNat) = putL (s.at i) (canL (s.l.take i.toNat)) := by
  rw [show (i + 1).toNat = i.toNat + 1 by omega, List.take_add_one, canL, List.foldl_append]
  simp [Sl.at, canL, List.getElem?_eq_getElem (show i.toNat < s.l.length by omega)]
theorem putL_pos (n : BitVec 32) (l : List (BitVec 32)) : 0 < (putL n l).length := by
  cases l with
  | nil => simp [putL]
  | cons x l => unfold putL; split <;> (try split) <;> simp
theorem canL_len (l : List (BitVec 32)) : (canL l).length ≤ l.length := by
  have : ∀ (l c : List (BitVec 32)), (l.foldl (fun c x => putL x c) c).length ≤ c.length + l.length := by
    intro l
    induction l with
    | nil => intro c; simp
    | cons x l ih =>
      intro c
      have h1 := ih (putL x c)
      have h2 := putL_len x c
      simp only [List.foldl_cons, List.length_cons]
      omega
  simpa [canL] using this l []
theorem nilOr_l {α : Type} {l : List α} : (nilOr l).l = l := by
  unfold nilOr
  split
  · rename_i h
    rw [List.length_eq_zero_iff.1 h]; rfl
  · rfl
theorem nilOr_pos {α : Type} {l : List α} (h : 0 < l.length) : nilOr l = .mk l := by
  unfold nilOr; rw [if_neg (by omega)]

/-- The reference's Canon. -/
def canonR (a : Attrs) : Attrs := ⟨a.origin, nilOr (a.path.l.map hard), a.next, a.hasMed, if a.hasMed then a.med else 0, a.hasPref, if a.hasPref then a.pref else 0, a.atomic, nilOr (canL a.comms.l)⟩
theorem c20 (a : Attrs) (hp : wide a.path) (hc : a.comms.l.length ≤ 1000000) : evF env (m + 2) true 20 [attrsV a] = some (attrsV (canonR a), []) := by
  obtain ⟨og, p, nx, hm, md, hpf, pr, atm, s⟩ := a
  dsimp only at hp hc
  rw [evF_go rfl fn20 rfl]
  simp (disch := first | assumption | omega | (simp only [go_sem]; done) | (simp only [go_sem, List.length_append, List.length_take, List.length_drop]; omega) | decide) only [go_sem, ↓reduceIte, ↓Nat.reduceEqDiff, ↓Nat.reduceAdd, ↓Nat.reduceLeDiff, ↓Nat.reduceLT, ↓Nat.reduceMul, ↓Nat.reduceSub, ↓Nat.reduceBNe, ↓Nat.reduceBEq, reduceCtorEq, Nat.le_refl, decide_eq_true_eq, Bool.not_eq_true, decide_eq_false_iff_not, decide_not, i64_id, y20, c50, hp]
  rw [goB_ite]
  split
  all_goals
    rename_i e1
    simp (disch := first | assumption | omega | (simp only [go_sem]; done) | (simp only [go_sem, List.length_append, List.length_take, List.length_drop]; omega) | decide) only [go_sem, ↓reduceIte, ↓Nat.reduceEqDiff, ↓Nat.reduceAdd, ↓Nat.reduceLeDiff, ↓Nat.reduceLT, ↓Nat.reduceMul, ↓Nat.reduceSub, ↓Nat.reduceBNe, ↓Nat.reduceBEq, reduceCtorEq, Nat.le_refl, decide_eq_true_eq, Bool.not_eq_true, decide_eq_false_iff_not, decide_not, i64_id]
    rw [goB_ite]
    split
  all_goals
    rename_i e2
    simp (disch := first | assumption | omega | (simp only [go_sem]; done) | (simp only [go_sem, List.length_append, List.length_take, List.length_drop]; omega) | decide) only [go_sem, ↓reduceIte, ↓Nat.reduceEqDiff, ↓Nat.reduceAdd, ↓Nat.reduceLeDiff, ↓Nat.reduceLT, ↓Nat.reduceMul, ↓Nat.reduceSub, ↓Nat.reduceBNe, ↓Nat.reduceBEq, reduceCtorEq, Nat.le_refl, decide_eq_true_eq, Bool.not_eq_true, decide_eq_false_iff_not, decide_not, i64_id]
    refine loop_F (fun t k => ∃ i : Int, i + k = s.l.length ∧ 0 ≤ i ∧ t.tm.get 1 = some (.c (.ptr 0 0)) ∧ t.tm.get 2 = some (.c (.ptr 1 0)) ∧ t.tm.get 4 = some (.int .i64 i) ∧ t.n = 2 ∧ t.tm.get 3 = some (.c (.t ((nilOr (canL (s.l.take i.toNat))).t u32c))) ∧ t.st.get 0 = some (.box [.t (.v (.int .i64 og)), .t ((nilOr (p.l.map hard)).t segC), .t (.v (U32 nx)), .t (.v (.bool hm)), .t (.v (U32 (if hm then md else 0))), .t (.v (.bool hpf)), .t (.v (U32 (if hpf then pr else 0))), .t (.v (.bool atm)), .t (s.t u32c)]) ∧ ∃ b, t.st.get 1 = some (.box b) ∧ b.length = 9) ?_ s.l.length _ _ ?_ ?_
    rotate_left 1
    · show s.l.length < 1125899906842624
      omega
    · refine ⟨0, by omega, by omega, ?_, ?_, ?_, rfl, ?_, ?_, ?_⟩
      · simp (disch := first | assumption | omega | (simp only [go_sem]; done) | (simp only [go_sem, List.length_append, List.length_take, List.length_drop]; omega) | decide) only [go_sem, ↓reduceIte, ↓Nat.reduceEqDiff, ↓Nat.reduceAdd, ↓Nat.reduceLeDiff, ↓Nat.reduceLT, ↓Nat.reduceMul, ↓Nat.reduceSub, ↓Nat.reduceBNe, ↓Nat.reduceBEq, reduceCtorEq, Nat.le_refl, decide_eq_true_eq, Bool.not_eq_true, decide_eq_false_iff_not, decide_not, i64_id]
      · simp (disch := first | assumption | omega | (simp only [go_sem]; done) | (simp only [go_sem, List.length_append, List.length_take, List.length_drop]; omega) | decide) only [go_sem, ↓reduceIte, ↓Nat.reduceEqDiff, ↓Nat.reduceAdd, ↓Nat.reduceLeDiff, ↓Nat.reduceLT, ↓Nat.reduceMul, ↓Nat.reduceSub, ↓Nat.reduceBNe, ↓Nat.reduceBEq, reduceCtorEq, Nat.le_refl, decide_eq_true_eq, Bool.not_eq_true, decide_eq_false_iff_not, decide_not, i64_id]
      · simp (disch := first | assumption | omega | (simp only [go_sem]; done) | (simp only [go_sem, List.length_append, List.length_take, List.length_drop]; omega) | decide) only [go_sem, ↓reduceIte, ↓Nat.reduceEqDiff, ↓Nat.reduceAdd, ↓Nat.reduceLeDiff, ↓Nat.reduceLT, ↓Nat.reduceMul, ↓Nat.reduceSub, ↓Nat.reduceBNe, ↓Nat.reduceBEq, reduceCtorEq, Nat.le_refl, decide_eq_true_eq, Bool.not_eq_true, decide_eq_false_iff_not, decide_not, i64_id]
      · simp (disch := first | assumption | omega | (simp only [go_sem]; done) | (simp only [go_sem, List.length_append, List.length_take, List.length_drop]; omega) | decide) only [go_sem, ↓reduceIte, ↓Nat.reduceEqDiff, ↓Nat.reduceAdd, ↓Nat.reduceLeDiff, ↓Nat.reduceLT, ↓Nat.reduceMul, ↓Nat.reduceSub, ↓Nat.reduceBNe, ↓Nat.reduceBEq, reduceCtorEq, Nat.le_refl, decide_eq_true_eq, Bool.not_eq_true, decide_eq_false_iff_not, decide_not, i64_id]
        rfl
      · simp (disch := first | assumption | omega | (simp only [go_sem]; done) | (simp only [go_sem, List.length_append, List.length_take, List.length_drop]; omega) | decide) only [go_sem, ↓reduceIte, ↓Nat.reduceEqDiff, ↓Nat.reduceAdd, ↓Nat.reduceLeDiff, ↓Nat.reduceLT, ↓Nat.reduceMul, ↓Nat.reduceSub, ↓Nat.reduceBNe, ↓Nat.reduceBEq, reduceCtorEq, Nat.le_refl, decide_eq_true_eq, Bool.not_eq_true, decide_eq_false_iff_not, decide_not, i64_id]
        simp_all
      · simp (disch := first | assumption | omega | (simp only [go_sem]; done) | (simp only [go_sem, List.length_append, List.length_take, List.length_drop]; omega) | decide) only [go_sem, ↓reduceIte, ↓Nat.reduceEqDiff, ↓Nat.reduceAdd, ↓Nat.reduceLeDiff, ↓Nat.reduceLT, ↓Nat.reduceMul, ↓Nat.reduceSub, ↓Nat.reduceBNe, ↓Nat.reduceBEq, reduceCtorEq, Nat.le_refl, decide_eq_true_eq, Bool.not_eq_true, decide_eq_false_iff_not, decide_not, i64_id]
        exact ⟨_, rfl, rfl⟩
    · rintro k ⟨tm, st, nn⟩ q ⟨i, hk, hi, h1, h2, h4, hn, h3, hst, b, hb, hbl⟩ ih
      dsimp only at h1 h2 h4 h3 hst hn hb
      subst hn
      simp (disch := first | assumption | omega | (simp only [go_sem]; done) | (simp only [go_sem, List.length_append, List.length_take, List.length_drop]; omega) | decide) only [go_sem, ↓reduceIte, ↓Nat.reduceEqDiff, ↓Nat.reduceAdd, ↓Nat.reduceLeDiff, ↓Nat.reduceLT, ↓Nat.reduceMul, ↓Nat.reduceSub, ↓Nat.reduceBNe, ↓Nat.reduceBEq, reduceCtorEq, Nat.le_refl, decide_eq_true_eq, Bool.not_eq_true, decide_eq_false_iff_not, decide_not, i64_id, h1, h2, h4, h3, hst]
      rw [goB_dec]
      split
      · rename_i hlt
        have hcl := canL_len (s.l.take i.toNat)
        rw [List.length_take] at hcl
        have hcl2 : (nilOr (canL (s.l.take i.toNat))).l.length ≤ 1000000 := by rw [nilOr_l]; omega
        simp (disch := first | assumption | omega | (simp only [go_sem]; done) | (simp only [go_sem, List.length_append, List.length_take, List.length_drop]; omega) | decide) only [go_sem, ↓reduceIte, ↓Nat.reduceEqDiff, ↓Nat.reduceAdd, ↓Nat.reduceLeDiff, ↓Nat.reduceLT, ↓Nat.reduceMul, ↓Nat.reduceSub, ↓Nat.reduceBNe, ↓Nat.reduceBEq, reduceCtorEq, Nat.le_refl, decide_eq_true_eq, Bool.not_eq_true, decide_eq_false_iff_not, decide_not, i64_id, h1, h2, h4, h3, hst, hlt, hi, u32c, c26, hcl2]
        refine ih (k - 1) _ (by omega) ⟨i + 1, by omega, by omega, ?_, ?_, ?_, rfl, ?_, ?_, ?_⟩
        · simp (disch := first | assumption | omega | (simp only [go_sem]; done) | (simp only [go_sem, List.length_append, List.length_take, List.length_drop]; omega) | decide) only [go_sem, ↓reduceIte, ↓Nat.reduceEqDiff, ↓Nat.reduceAdd, ↓Nat.reduceLeDiff, ↓Nat.reduceLT, ↓Nat.reduceMul, ↓Nat.reduceSub, ↓Nat.reduceBNe, ↓Nat.reduceBEq, reduceCtorEq, Nat.le_refl, decide_eq_true_eq, Bool.not_eq_true, decide_eq_false_iff_not, decide_not, i64_id, h1]
        · simp (disch := first | assumption | omega | (simp only [go_sem]; done) | (simp only [go_sem, List.length_append, List.length_take, List.length_drop]; omega) | decide) only [go_sem, ↓reduceIte, ↓Nat.reduceEqDiff, ↓Nat.reduceAdd, ↓Nat.reduceLeDiff, ↓Nat.reduceLT, ↓Nat.reduceMul, ↓Nat.reduceSub, ↓Nat.reduceBNe, ↓Nat.reduceBEq, reduceCtorEq, Nat.le_refl, decide_eq_true_eq, Bool.not_eq_true, decide_eq_false_iff_not, decide_not, i64_id, h2]
        · simp (disch := first | assumption | omega | (simp only [go_sem]; done) | (simp only [go_sem, List.length_append, List.length_take, List.length_drop]; omega) | decide) only [go_sem, ↓reduceIte, ↓Nat.reduceEqDiff, ↓Nat.reduceAdd, ↓Nat.reduceLeDiff, ↓Nat.reduceLT, ↓Nat.reduceMul, ↓Nat.reduceSub, ↓Nat.reduceBNe, ↓Nat.reduceBEq, reduceCtorEq, Nat.le_refl, decide_eq_true_eq, Bool.not_eq_true, decide_eq_false_iff_not, decide_not, i64_id]
        · rw [canL_take hi hlt, nilOr_pos (putL_pos _ _)]
          simp (disch := first | assumption | omega | (simp only [go_sem]; done) | (simp only [go_sem, List.length_append, List.length_take, List.length_drop]; omega) | decide) only [go_sem, ↓reduceIte, ↓Nat.reduceEqDiff, ↓Nat.reduceAdd, ↓Nat.reduceLeDiff, ↓Nat.reduceLT, ↓Nat.reduceMul, ↓Nat.reduceSub, ↓Nat.reduceBNe, ↓Nat.reduceBEq, reduceCtorEq, Nat.le_refl, decide_eq_true_eq, Bool.not_eq_true, decide_eq_false_iff_not, decide_not, i64_id, nilOr_l]
        · simp (disch := first | assumption | omega | (simp only [go_sem]; done) | (simp only [go_sem, List.length_append, List.length_take, List.length_drop]; omega) | decide) only [go_sem, ↓reduceIte, ↓Nat.reduceEqDiff, ↓Nat.reduceAdd, ↓Nat.reduceLeDiff, ↓Nat.reduceLT, ↓Nat.reduceMul, ↓Nat.reduceSub, ↓Nat.reduceBNe, ↓Nat.reduceBEq, reduceCtorEq, Nat.le_refl, decide_eq_true_eq, Bool.not_eq_true, decide_eq_false_iff_not, decide_not, i64_id, hst]
        · exact ⟨b, hb, hbl⟩
      · rename_i hlt
        simp (disch := first | assumption | omega | (simp only [go_sem]; done) | (simp only [go_sem, List.length_append, List.length_take, List.length_drop]; omega) | decide) only [go_sem, ↓reduceIte, ↓Nat.reduceEqDiff, ↓Nat.reduceAdd, ↓Nat.reduceLeDiff, ↓Nat.reduceLT, ↓Nat.reduceMul, ↓Nat.reduceSub, ↓Nat.reduceBNe, ↓Nat.reduceBEq, reduceCtorEq, Nat.le_refl, decide_eq_true_eq, Bool.not_eq_true, decide_eq_false_iff_not, decide_not, i64_id, h1, h2, h4, h3, hst, hb, hbl, hlt]
        rw [List.take_of_length_le (show s.l.length ≤ i.toNat by omega)]
        simp [canonR]
end Go.Proofs.Ytcijgahloogooaa
