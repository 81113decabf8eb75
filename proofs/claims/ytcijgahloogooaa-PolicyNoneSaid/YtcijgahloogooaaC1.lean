/- What the functions of prefixes answer. -/
import Derived.Test.YtcijgahloogooaaEn
namespace Go.Proofs.Ytcijgahloogooaa
open Go Go.Proofs.Sg
set_option maxRecDepth 10000
set_option linter.unusedSimpArgs false
set_option linter.unusedVariables false
variable (m : Nat)

abbrev pfx (a : BitVec 32) (n : Int) : V := .agg [.t (.v (U32 a)), .t (.v (.int .i64 n))]
def maskB (n : Int) : BitVec 32 := if n < 1 then 0 else 4294967295#32 <<< (32 - min n 32).toNat
def rightB (a : BitVec 32) (n : Int) : Bool := decide (0 ≤ n) && decide (n ≤ 32) && decide (a &&& ~~~ maskB n = 0)
def hasB (a : BitVec 32) (n : Int) (x : BitVec 32) : Bool := rightB a n && decide (x &&& maskB n = a)
def coversB (a : BitVec 32) (n : Int) (b : BitVec 32) (k : Int) : Bool := rightB b k && hasB a n b && decide (n ≤ k)

theorem c111 (n : Int) (h0 : 0 ≤ n) (h1 : n ≤ 32) : evF env (m + 1) true 111 [.int .i64 n] = some (V.p (U32 (maskB n)), []) := by
  rw [evF_go rfl fn111 rfl]
  simp (disch := first | assumption | omega | (simp only [go_sem]; done) | (simp only [go_sem, List.length_append, List.length_take, List.length_drop]; omega) | decide) only [go_sem, ↓reduceIte, ↓Nat.reduceEqDiff, ↓Nat.reduceAdd, ↓Nat.reduceLeDiff, ↓Nat.reduceLT, ↓Nat.reduceMul, ↓Nat.reduceSub, ↓Nat.reduceBNe, ↓Nat.reduceBEq, reduceCtorEq, Nat.le_refl, decide_eq_true_eq, Bool.not_eq_true, decide_eq_false_iff_not, decide_not, i64_id, y111]
  repeat' ((first | rw [goB_dec] | rw [goG_dec] | rw [goGD_dec] | rw [goB_ite] | rw [goG_ite] | rw [goGD_ite]) <;> split <;> simp (disch := first | assumption | omega | (simp only [go_sem]; done) | (simp only [go_sem, List.length_append, List.length_take, List.length_drop]; omega) | decide) only [go_sem, ↓reduceIte, ↓Nat.reduceEqDiff, ↓Nat.reduceAdd, ↓Nat.reduceLeDiff, ↓Nat.reduceLT, ↓Nat.reduceMul, ↓Nat.reduceSub, ↓Nat.reduceBNe, ↓Nat.reduceBEq, reduceCtorEq, Nat.le_refl, decide_eq_true_eq, Bool.not_eq_true, decide_eq_false_iff_not, decide_not, i64_id, *])
  all_goals simp [maskB, *]

theorem c78 (n : Int) (h0 : 0 ≤ n) (h1 : n ≤ 32) : evF env (m + 1) true 78 [.int .i64 n] = some (V.p (U32 (maskB n)), []) := by
  have hk : n = 0 ∨ n = 1 ∨ n = 2 ∨ n = 3 ∨ n = 4 ∨ n = 5 ∨ n = 6 ∨ n = 7 ∨ n = 8 ∨ n = 9 ∨ n = 10 ∨ n = 11 ∨ n = 12 ∨ n = 13 ∨ n = 14 ∨ n = 15 ∨ n = 16 ∨ n = 17 ∨ n = 18 ∨ n = 19 ∨ n = 20 ∨ n = 21 ∨ n = 22 ∨ n = 23 ∨ n = 24 ∨ n = 25 ∨ n = 26 ∨ n = 27 ∨ n = 28 ∨ n = 29 ∨ n = 30 ∨ n = 31 ∨ n = 32 := by omega
  clear h0 h1
  rcases hk with rfl | rfl | rfl | rfl | rfl | rfl | rfl | rfl | rfl | rfl | rfl | rfl | rfl | rfl | rfl | rfl | rfl | rfl | rfl | rfl | rfl | rfl | rfl | rfl | rfl | rfl | rfl | rfl | rfl | rfl | rfl | rfl | rfl
  all_goals (refine Eq.trans (b := some (V.p (U32 (maskB _)), [])) ?_ rfl; kernel_rfl)

def within (n lo hi : Int) : Int := if n.tmod (hi - lo + 1) < 0 then lo + (n.tmod (hi - lo + 1) + hi - lo + 1) else lo + n.tmod (hi - lo + 1)
theorem c33 (n lo hi : Int) (h0 : 0 ≤ lo) (h1 : lo ≤ hi) (h2 : hi ≤ 1000000) : evF env (m + 1) true 33 [.int .i64 n, .int .i64 lo, .int .i64 hi] = some (.int .i64 (within n lo hi), []) := by
  have h3 : hi - lo + 1 ≠ 0 := by omega
  have h4 := Int.tmod_lt_of_pos n (b := hi - lo + 1) (by omega)
  have h5 : -(hi - lo + 1) < n.tmod (hi - lo + 1) := by
    rcases Int.le_total 0 n with h | h
    · have := Int.tmod_nonneg (hi - lo + 1) h; omega
    · have := Int.tmod_lt_of_pos (-n) (b := hi - lo + 1) (by omega)
      rw [Int.neg_tmod] at this; omega
  rw [evF_go rfl fn33 rfl]
  simp (disch := first | assumption | omega | (simp only [go_sem]; done) | (simp only [go_sem, List.length_append, List.length_take, List.length_drop]; omega) | decide) only [go_sem, ↓reduceIte, ↓Nat.reduceEqDiff, ↓Nat.reduceAdd, ↓Nat.reduceLeDiff, ↓Nat.reduceLT, ↓Nat.reduceMul, ↓Nat.reduceSub, ↓Nat.reduceBNe, ↓Nat.reduceBEq, reduceCtorEq, Nat.le_refl, decide_eq_true_eq, Bool.not_eq_true, decide_eq_false_iff_not, decide_not, i64_id, y33]
  repeat' ((first | rw [goB_dec] | rw [goG_dec] | rw [goGD_dec] | rw [goB_ite] | rw [goG_ite] | rw [goGD_ite]) <;> split <;> simp (disch := first | assumption | omega | (simp only [go_sem]; done) | (simp only [go_sem, List.length_append, List.length_take, List.length_drop]; omega) | decide) only [go_sem, ↓reduceIte, ↓Nat.reduceEqDiff, ↓Nat.reduceAdd, ↓Nat.reduceLeDiff, ↓Nat.reduceLT, ↓Nat.reduceMul, ↓Nat.reduceSub, ↓Nat.reduceBNe, ↓Nat.reduceBEq, reduceCtorEq, Nat.le_refl, decide_eq_true_eq, Bool.not_eq_true, decide_eq_false_iff_not, decide_not, i64_id, *])
  all_goals simp [within, *]

theorem within_range (n lo hi : Int) (h0 : 0 ≤ lo) (h1 : lo ≤ hi) : lo ≤ within n lo hi ∧ within n lo hi ≤ hi := by
  have h4 := Int.tmod_lt_of_pos n (b := hi - lo + 1) (by omega)
  have h5 : -(hi - lo + 1) < n.tmod (hi - lo + 1) := by
    rcases Int.le_total 0 n with h | h
    · have := Int.tmod_nonneg (hi - lo + 1) h; omega
    · have := Int.tmod_lt_of_pos (-n) (b := hi - lo + 1) (by omega)
      rw [Int.neg_tmod] at this; omega
  unfold within
  split <;> omega
def ofB (a : BitVec 32) (n : Int) : BitVec 32 := a &&& maskB n
def clampB (n : Int) : Int := if n < 0 then 0 else if 32 < n then 32 else n
theorem c43 (a : BitVec 32) (n : Int) : evF env (m + 2) true 43 [V.p (U32 a), .int .i64 n] = some (pfx (ofB a (clampB n)) (clampB n), []) := by
  rw [evF_go rfl fn43 rfl]
  simp (disch := first | assumption | omega | (simp only [go_sem]; done) | (simp only [go_sem, List.length_append, List.length_take, List.length_drop]; omega) | decide) only [go_sem, ↓reduceIte, ↓Nat.reduceEqDiff, ↓Nat.reduceAdd, ↓Nat.reduceLeDiff, ↓Nat.reduceLT, ↓Nat.reduceMul, ↓Nat.reduceSub, ↓Nat.reduceBNe, ↓Nat.reduceBEq, reduceCtorEq, Nat.le_refl, decide_eq_true_eq, Bool.not_eq_true, decide_eq_false_iff_not, decide_not, i64_id, y43, c78]
  repeat' ((first | rw [goB_dec] | rw [goG_dec] | rw [goGD_dec] | rw [goB_ite] | rw [goG_ite] | rw [goGD_ite]) <;> split <;> simp (disch := first | assumption | omega | (simp only [go_sem]; done) | (simp only [go_sem, List.length_append, List.length_take, List.length_drop]; omega) | decide) only [go_sem, ↓reduceIte, ↓Nat.reduceEqDiff, ↓Nat.reduceAdd, ↓Nat.reduceLeDiff, ↓Nat.reduceLT, ↓Nat.reduceMul, ↓Nat.reduceSub, ↓Nat.reduceBNe, ↓Nat.reduceBEq, reduceCtorEq, Nat.le_refl, decide_eq_true_eq, Bool.not_eq_true, decide_eq_false_iff_not, decide_not, i64_id, *, c78])
  all_goals first | omega | simp [ofB, clampB, *]

theorem c24 (a : BitVec 32) (n : Int) : evF env (m + 3) true 24 [V.p (U32 a), .int .i64 n] = some (pfx (ofB a (clampB (within n 0 32))) (clampB (within n 0 32)), []) := by
  rw [evF_go rfl fn24 rfl]
  simp (disch := first | assumption | omega | (simp only [go_sem]; done) | (simp only [go_sem, List.length_append, List.length_take, List.length_drop]; omega) | decide) only [go_sem, ↓reduceIte, ↓Nat.reduceEqDiff, ↓Nat.reduceAdd, ↓Nat.reduceLeDiff, ↓Nat.reduceLT, ↓Nat.reduceMul, ↓Nat.reduceSub, ↓Nat.reduceBNe, ↓Nat.reduceBEq, reduceCtorEq, Nat.le_refl, decide_eq_true_eq, Bool.not_eq_true, decide_eq_false_iff_not, decide_not, i64_id, y24, c33, c43]

theorem c15 (a : BitVec 32) (n : Int) : evF env (m + 3) true 15 [V.p (U32 a), .int .i64 n] = some (pfx (ofB ((167772160 : BitVec 32) ||| (a % 64) <<< (18 : Nat)) (clampB (8 + within n 0 6))) (clampB (8 + within n 0 6)), []) := by
  have h := within_range n 0 6 (by omega) (by omega)
  obtain ⟨h0, h1⟩ := h
  rw [evF_go rfl fn15 rfl]
  simp (disch := first | assumption | omega | (simp only [go_sem]; done) | (simp only [go_sem, List.length_append, List.length_take, List.length_drop]; omega) | decide) only [go_sem, ↓reduceIte, ↓Nat.reduceEqDiff, ↓Nat.reduceAdd, ↓Nat.reduceLeDiff, ↓Nat.reduceLT, ↓Nat.reduceMul, ↓Nat.reduceSub, ↓Nat.reduceBNe, ↓Nat.reduceBEq, reduceCtorEq, Nat.le_refl, decide_eq_true_eq, Bool.not_eq_true, decide_eq_false_iff_not, decide_not, i64_id, y15, c33, c43]
  rfl

theorem c44 (a : BitVec 32) : evF env (m + 1) true 44 [V.p (U32 a)] = some (V.p (U32 (3221225984 ||| a % 6)), []) := by
  rw [evF_go rfl fn44 rfl]
  simp (disch := first | assumption | omega | (simp only [go_sem]; done) | (simp only [go_sem, List.length_append, List.length_take, List.length_drop]; omega) | decide) only [go_sem, ↓reduceIte, ↓Nat.reduceEqDiff, ↓Nat.reduceAdd, ↓Nat.reduceLeDiff, ↓Nat.reduceLT, ↓Nat.reduceMul, ↓Nat.reduceSub, ↓Nat.reduceBNe, ↓Nat.reduceBEq, reduceCtorEq, Nat.le_refl, decide_eq_true_eq, Bool.not_eq_true, decide_eq_false_iff_not, decide_not, i64_id, y44]

theorem c71 (a : BitVec 32) (n : Int) : evF env (m + 2) true 71 [pfx a n] = some (V.bool (rightB a n), []) := by
  rw [evF_go rfl fn71 rfl]
  simp (disch := first | assumption | omega | (simp only [go_sem]; done) | (simp only [go_sem, List.length_append, List.length_take, List.length_drop]; omega) | decide) only [go_sem, ↓reduceIte, ↓Nat.reduceEqDiff, ↓Nat.reduceAdd, ↓Nat.reduceLeDiff, ↓Nat.reduceLT, ↓Nat.reduceMul, ↓Nat.reduceSub, ↓Nat.reduceBNe, ↓Nat.reduceBEq, reduceCtorEq, Nat.le_refl, decide_eq_true_eq, Bool.not_eq_true, decide_eq_false_iff_not, decide_not, i64_id, y71, c111]
  repeat' ((first | rw [goB_dec] | rw [goG_dec] | rw [goGD_dec] | rw [goB_ite] | rw [goG_ite] | rw [goGD_ite]) <;> split <;> simp (disch := first | assumption | omega | (simp only [go_sem]; done) | (simp only [go_sem, List.length_append, List.length_take, List.length_drop]; omega) | decide) only [go_sem, ↓reduceIte, ↓Nat.reduceEqDiff, ↓Nat.reduceAdd, ↓Nat.reduceLeDiff, ↓Nat.reduceLT, ↓Nat.reduceMul, ↓Nat.reduceSub, ↓Nat.reduceBNe, ↓Nat.reduceBEq, reduceCtorEq, Nat.le_refl, decide_eq_true_eq, Bool.not_eq_true, decide_eq_false_iff_not, decide_not, i64_id, *, c111])
  all_goals simp [rightB, *]

theorem c83 (a : BitVec 32) (n : Int) (x : BitVec 32) : evF env (m + 3) true 83 [pfx a n, V.p (U32 x)] = some (V.bool (hasB a n x), []) := by
  rw [evF_go rfl fn83 rfl]
  simp (disch := first | assumption | omega | (simp only [go_sem]; done) | (simp only [go_sem, List.length_append, List.length_take, List.length_drop]; omega) | decide) only [go_sem, ↓reduceIte, ↓Nat.reduceEqDiff, ↓Nat.reduceAdd, ↓Nat.reduceLeDiff, ↓Nat.reduceLT, ↓Nat.reduceMul, ↓Nat.reduceSub, ↓Nat.reduceBNe, ↓Nat.reduceBEq, reduceCtorEq, Nat.le_refl, decide_eq_true_eq, Bool.not_eq_true, decide_eq_false_iff_not, decide_not, i64_id, y83, c71]
  rw [goGD_ite]
  split
  · rename_i h
    have h' : 0 ≤ n ∧ n ≤ 32 := by simp [rightB] at h; omega
    obtain ⟨h0, h1⟩ := h'
    simp (disch := first | assumption | omega | (simp only [go_sem]; done) | (simp only [go_sem, List.length_append, List.length_take, List.length_drop]; omega) | decide) only [go_sem, ↓reduceIte, ↓Nat.reduceEqDiff, ↓Nat.reduceAdd, ↓Nat.reduceLeDiff, ↓Nat.reduceLT, ↓Nat.reduceMul, ↓Nat.reduceSub, ↓Nat.reduceBNe, ↓Nat.reduceBEq, reduceCtorEq, Nat.le_refl, decide_eq_true_eq, Bool.not_eq_true, decide_eq_false_iff_not, decide_not, i64_id, c111, h0, h1, h]
    simp [hasB, h]
  · rename_i h
    simp (disch := first | assumption | omega | (simp only [go_sem]; done) | (simp only [go_sem, List.length_append, List.length_take, List.length_drop]; omega) | decide) only [go_sem, ↓reduceIte, ↓Nat.reduceEqDiff, ↓Nat.reduceAdd, ↓Nat.reduceLeDiff, ↓Nat.reduceLT, ↓Nat.reduceMul, ↓Nat.reduceSub, ↓Nat.reduceBNe, ↓Nat.reduceBEq, reduceCtorEq, Nat.le_refl, decide_eq_true_eq, Bool.not_eq_true, decide_eq_false_iff_not, decide_not, i64_id, h]
    simp [hasB, h]

theorem c47 (a : BitVec 32) (n : Int) (b : BitVec 32) (k : Int) : evF env (m + 4) true 47 [pfx a n, pfx b k] = some (V.bool (coversB a n b k), []) := by
  rw [evF_go rfl fn47 rfl]
  simp (disch := first | assumption | omega | (simp only [go_sem]; done) | (simp only [go_sem, List.length_append, List.length_take, List.length_drop]; omega) | decide) only [go_sem, ↓reduceIte, ↓Nat.reduceEqDiff, ↓Nat.reduceAdd, ↓Nat.reduceLeDiff, ↓Nat.reduceLT, ↓Nat.reduceMul, ↓Nat.reduceSub, ↓Nat.reduceBNe, ↓Nat.reduceBEq, reduceCtorEq, Nat.le_refl, decide_eq_true_eq, Bool.not_eq_true, decide_eq_false_iff_not, decide_not, i64_id, y47, c71, c83]
  repeat' ((first | rw [goB_dec] | rw [goG_dec] | rw [goGD_dec] | rw [goB_ite] | rw [goG_ite] | rw [goGD_ite]) <;> split <;> simp (disch := first | assumption | omega | (simp only [go_sem]; done) | (simp only [go_sem, List.length_append, List.length_take, List.length_drop]; omega) | decide) only [go_sem, ↓reduceIte, ↓Nat.reduceEqDiff, ↓Nat.reduceAdd, ↓Nat.reduceLeDiff, ↓Nat.reduceLT, ↓Nat.reduceMul, ↓Nat.reduceSub, ↓Nat.reduceBNe, ↓Nat.reduceBEq, reduceCtorEq, Nat.le_refl, decide_eq_true_eq, Bool.not_eq_true, decide_eq_false_iff_not, decide_not, i64_id, *, c71, c83])
  all_goals simp [coversB, *]

end Go.Proofs.Ytcijgahloogooaa
