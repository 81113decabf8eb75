/- What the functions of matching answer. -/
import Derived.Test.YtcijgahloogooaaC1
namespace Go.Proofs.Ytcijgahloogooaa
open Go Go.Proofs.Sg
set_option maxRecDepth 10000
set_option linter.unusedSimpArgs false
set_option linter.unusedVariables false
variable (m : Nat)

def ixL (x : BitVec 32) : List (BitVec 32) → Int → Int
  | [], _ => -1
  | y :: l, i => if x = y then i else ixL x l (i + 1)
theorem ixL_ge (x : BitVec 32) : ∀ (l : List (BitVec 32)) (i : Int), 0 ≤ i → (0 ≤ ixL x l i ↔ x ∈ l)
  | [], i, h => by simp [ixL]
  | y :: l, i, h => by
    unfold ixL
    by_cases e : x = y
    · simp [e, h]
    · rw [if_neg e, ixL_ge x l (i + 1) (by omega)]; simp [e]

theorem c84 (s : Sl (BitVec 32)) (x : BitVec 32) (hs : s.l.length ≤ 1000000) : evF env (m + 1) true 84 [.c (.t (s.t u32c)), V.p (U32 x)] = some (.int .i64 (ixL x s.l 0), []) := by
  rw [evF_go rfl fn84 rfl]
  simp (disch := first | assumption | omega | (simp only [go_sem]; done) | (simp only [go_sem, List.length_append, List.length_take, List.length_drop]; omega) | decide) only [go_sem, ↓reduceIte, ↓Nat.reduceEqDiff, ↓Nat.reduceAdd, ↓Nat.reduceLeDiff, ↓Nat.reduceLT, ↓Nat.reduceMul, ↓Nat.reduceSub, ↓Nat.reduceBNe, ↓Nat.reduceBEq, reduceCtorEq, Nat.le_refl, decide_eq_true_eq, Bool.not_eq_true, decide_eq_false_iff_not, decide_not, i64_id, y84]
  refine loop_F (fun t k => ∃ i : Int, i + k = s.l.length ∧ 0 ≤ i ∧ t.tm.get 0 = some (.c (.t (s.t u32c))) ∧ t.tm.get 1 = some (V.p (U32 x)) ∧ t.tm.get 7 = some (.int .i64 s.l.length) ∧ t.tm.get 8 = some (.int .i64 i) ∧ ixL x s.l 0 = ixL x (s.l.drop i.toNat) i) ?_ s.l.length _ _ ?_ ?_
  · rintro k ⟨tm, st, nn⟩ n ⟨i, hk, hi, h0, h1, h7, h8, he⟩ ih
    dsimp only at h0 h1 h7 h8
    simp (disch := first | assumption | omega | (simp only [go_sem]; done) | (simp only [go_sem, List.length_append, List.length_take, List.length_drop]; omega) | decide) only [go_sem, ↓reduceIte, ↓Nat.reduceEqDiff, ↓Nat.reduceAdd, ↓Nat.reduceLeDiff, ↓Nat.reduceLT, ↓Nat.reduceMul, ↓Nat.reduceSub, ↓Nat.reduceBNe, ↓Nat.reduceBEq, reduceCtorEq, Nat.le_refl, decide_eq_true_eq, Bool.not_eq_true, decide_eq_false_iff_not, decide_not, i64_id, h0, h1, h7, h8]
    rw [goB_dec]
    split
    · rename_i hlt
      rw [Sl.drop_at hi hlt] at he
      simp (disch := first | assumption | omega | (simp only [go_sem]; done) | (simp only [go_sem, List.length_append, List.length_take, List.length_drop]; omega) | decide) only [go_sem, ↓reduceIte, ↓Nat.reduceEqDiff, ↓Nat.reduceAdd, ↓Nat.reduceLeDiff, ↓Nat.reduceLT, ↓Nat.reduceMul, ↓Nat.reduceSub, ↓Nat.reduceBNe, ↓Nat.reduceBEq, reduceCtorEq, Nat.le_refl, decide_eq_true_eq, Bool.not_eq_true, decide_eq_false_iff_not, decide_not, i64_id, h0, h1, h7, h8, hlt, hi, u32c]
      rw [goB_dec]
      split
      · rename_i e
        simp (disch := first | assumption | omega | (simp only [go_sem]; done) | (simp only [go_sem, List.length_append, List.length_take, List.length_drop]; omega) | decide) only [go_sem, ↓reduceIte, ↓Nat.reduceEqDiff, ↓Nat.reduceAdd, ↓Nat.reduceLeDiff, ↓Nat.reduceLT, ↓Nat.reduceMul, ↓Nat.reduceSub, ↓Nat.reduceBNe, ↓Nat.reduceBEq, reduceCtorEq, Nat.le_refl, decide_eq_true_eq, Bool.not_eq_true, decide_eq_false_iff_not, decide_not, i64_id]
        rw [he, e, ixL, if_pos rfl]
      · rename_i e
        simp (disch := first | assumption | omega | (simp only [go_sem]; done) | (simp only [go_sem, List.length_append, List.length_take, List.length_drop]; omega) | decide) only [go_sem, ↓reduceIte, ↓Nat.reduceEqDiff, ↓Nat.reduceAdd, ↓Nat.reduceLeDiff, ↓Nat.reduceLT, ↓Nat.reduceMul, ↓Nat.reduceSub, ↓Nat.reduceBNe, ↓Nat.reduceBEq, reduceCtorEq, Nat.le_refl, decide_eq_true_eq, Bool.not_eq_true, decide_eq_false_iff_not, decide_not, i64_id, h0, h1, h7, h8]
        refine ih (k - 1) _ (by omega) ⟨i + 1, by omega, by omega, ?_, ?_, ?_, ?_, ?_⟩
        · simp (disch := first | assumption | omega | (simp only [go_sem]; done) | (simp only [go_sem, List.length_append, List.length_take, List.length_drop]; omega) | decide) only [go_sem, ↓reduceIte, ↓Nat.reduceEqDiff, ↓Nat.reduceAdd, ↓Nat.reduceLeDiff, ↓Nat.reduceLT, ↓Nat.reduceMul, ↓Nat.reduceSub, ↓Nat.reduceBNe, ↓Nat.reduceBEq, reduceCtorEq, Nat.le_refl, decide_eq_true_eq, Bool.not_eq_true, decide_eq_false_iff_not, decide_not, i64_id, h0]
        · simp (disch := first | assumption | omega | (simp only [go_sem]; done) | (simp only [go_sem, List.length_append, List.length_take, List.length_drop]; omega) | decide) only [go_sem, ↓reduceIte, ↓Nat.reduceEqDiff, ↓Nat.reduceAdd, ↓Nat.reduceLeDiff, ↓Nat.reduceLT, ↓Nat.reduceMul, ↓Nat.reduceSub, ↓Nat.reduceBNe, ↓Nat.reduceBEq, reduceCtorEq, Nat.le_refl, decide_eq_true_eq, Bool.not_eq_true, decide_eq_false_iff_not, decide_not, i64_id, h1]
        · simp (disch := first | assumption | omega | (simp only [go_sem]; done) | (simp only [go_sem, List.length_append, List.length_take, List.length_drop]; omega) | decide) only [go_sem, ↓reduceIte, ↓Nat.reduceEqDiff, ↓Nat.reduceAdd, ↓Nat.reduceLeDiff, ↓Nat.reduceLT, ↓Nat.reduceMul, ↓Nat.reduceSub, ↓Nat.reduceBNe, ↓Nat.reduceBEq, reduceCtorEq, Nat.le_refl, decide_eq_true_eq, Bool.not_eq_true, decide_eq_false_iff_not, decide_not, i64_id, h7]
        · simp (disch := first | assumption | omega | (simp only [go_sem]; done) | (simp only [go_sem, List.length_append, List.length_take, List.length_drop]; omega) | decide) only [go_sem, ↓reduceIte, ↓Nat.reduceEqDiff, ↓Nat.reduceAdd, ↓Nat.reduceLeDiff, ↓Nat.reduceLT, ↓Nat.reduceMul, ↓Nat.reduceSub, ↓Nat.reduceBNe, ↓Nat.reduceBEq, reduceCtorEq, Nat.le_refl, decide_eq_true_eq, Bool.not_eq_true, decide_eq_false_iff_not, decide_not, i64_id, h8]
        · rw [he, ixL, if_neg e]
    · rename_i hlt
      simp (disch := first | assumption | omega | (simp only [go_sem]; done) | (simp only [go_sem, List.length_append, List.length_take, List.length_drop]; omega) | decide) only [go_sem, ↓reduceIte, ↓Nat.reduceEqDiff, ↓Nat.reduceAdd, ↓Nat.reduceLeDiff, ↓Nat.reduceLT, ↓Nat.reduceMul, ↓Nat.reduceSub, ↓Nat.reduceBNe, ↓Nat.reduceBEq, reduceCtorEq, Nat.le_refl, decide_eq_true_eq, Bool.not_eq_true, decide_eq_false_iff_not, decide_not, i64_id]
      rw [he, Sl.drop_end hlt]
      rfl
  · show s.l.length < 1125899906842624
    omega
  · refine ⟨0, by omega, by omega, ?_, ?_, ?_, ?_, rfl⟩ <;> simp (disch := first | assumption | omega | (simp only [go_sem]; done) | (simp only [go_sem, List.length_append, List.length_take, List.length_drop]; omega) | decide) only [go_sem, ↓reduceIte, ↓Nat.reduceEqDiff, ↓Nat.reduceAdd, ↓Nat.reduceLeDiff, ↓Nat.reduceLT, ↓Nat.reduceMul, ↓Nat.reduceSub, ↓Nat.reduceBNe, ↓Nat.reduceBEq, reduceCtorEq, Nat.le_refl, decide_eq_true_eq, Bool.not_eq_true, decide_eq_false_iff_not, decide_not, i64_id]

theorem c48 (s : Sl (BitVec 32)) (x : BitVec 32) (hs : s.l.length ≤ 1000000) : evF env (m + 2) true 48 [.c (.t (s.t u32c)), V.p (U32 x)] = some (V.bool (decide (x ∈ s.l)), []) := by
  rw [evF_go rfl fn48 rfl]
  simp (disch := first | assumption | omega | (simp only [go_sem]; done) | (simp only [go_sem, List.length_append, List.length_take, List.length_drop]; omega) | decide) only [go_sem, ↓reduceIte, ↓Nat.reduceEqDiff, ↓Nat.reduceAdd, ↓Nat.reduceLeDiff, ↓Nat.reduceLT, ↓Nat.reduceMul, ↓Nat.reduceSub, ↓Nat.reduceBNe, ↓Nat.reduceBEq, reduceCtorEq, Nat.le_refl, decide_eq_true_eq, Bool.not_eq_true, decide_eq_false_iff_not, decide_not, i64_id, y48, c84]
  simp [ixL_ge]

structure Seg where
  kind : Int
  al : Sl (BitVec 32)
  deriving Inhabited
structure Attrs where
  origin : Int
  path : Sl Seg
  next : BitVec 32
  hasMed : Bool
  med : BitVec 32
  hasPref : Bool
  pref : BitVec 32
  atomic : Bool
  comms : Sl (BitVec 32)
  deriving Inhabited
structure Rule where
  pa : BitVec 32
  pl : Int
  lo : Int
  hi : Int
  comm : BitVec 32
  rej : Bool
  sp : Bool
  pr : BitVec 32
  sm : Bool
  md : BitVec 32
  pre : Int
  ac : BitVec 32
  deriving Inhabited
def segC (s : Seg) : List T := [.v (.int .i64 s.kind), s.al.t u32c]
def ruleC (r : Rule) : List T := [.v (U32 r.pa), .v (.int .i64 r.pl), .v (.int .i64 r.lo), .v (.int .i64 r.hi), .v (U32 r.comm), .v (.bool r.rej), .v (.bool r.sp), .v (U32 r.pr), .v (.bool r.sm), .v (U32 r.md), .v (.int .i64 r.pre), .v (U32 r.ac)]
theorem fx_seg : Fx segC 2 := fun _ => rfl
theorem fx_rule : Fx ruleC 12 := fun _ => rfl
attribute [go_sem] fx_seg fx_rule
abbrev segV (s : Seg) : V := .agg [.t (.v (.int .i64 s.kind)), .t (s.al.t u32c)]
abbrev ruleV (r : Rule) : V := .agg [.t (.v (U32 r.pa)), .t (.v (.int .i64 r.pl)), .t (.v (.int .i64 r.lo)), .t (.v (.int .i64 r.hi)), .t (.v (U32 r.comm)), .t (.v (.bool r.rej)), .t (.v (.bool r.sp)), .t (.v (U32 r.pr)), .t (.v (.bool r.sm)), .t (.v (U32 r.md)), .t (.v (.int .i64 r.pre)), .t (.v (U32 r.ac))]
abbrev attrsV (a : Attrs) : V := .agg [.t (.v (.int .i64 a.origin)), .t (a.path.t segC), .t (.v (U32 a.next)), .t (.v (.bool a.hasMed)), .t (.v (U32 a.med)), .t (.v (.bool a.hasPref)), .t (.v (U32 a.pref)), .t (.v (.bool a.atomic)), .t (a.comms.t u32c)]

def matchB (r : Rule) (a : BitVec 32) (n : Int) (c : List (BitVec 32)) : Bool := coversB r.pa r.pl a n && decide (r.lo ≤ n) && decide (n ≤ r.hi) && (decide (r.comm = 0) || decide (r.comm ∈ c))
theorem c18 (r : Rule) (a : BitVec 32) (n : Int) (t : Attrs) (ht : t.comms.l.length ≤ 1000000) : evF env (m + 5) true 18 [ruleV r, pfx a n, attrsV t] = some (V.bool (matchB r a n t.comms.l), []) := by
  rw [evF_go rfl fn18 rfl]
  simp (disch := first | assumption | omega | (simp only [go_sem]; done) | (simp only [go_sem, List.length_append, List.length_take, List.length_drop]; omega) | decide) only [go_sem, ↓reduceIte, ↓Nat.reduceEqDiff, ↓Nat.reduceAdd, ↓Nat.reduceLeDiff, ↓Nat.reduceLT, ↓Nat.reduceMul, ↓Nat.reduceSub, ↓Nat.reduceBNe, ↓Nat.reduceBEq, reduceCtorEq, Nat.le_refl, decide_eq_true_eq, Bool.not_eq_true, decide_eq_false_iff_not, decide_not, i64_id, y18, c47]
  repeat' ((first | rw [goB_dec] | rw [goG_dec] | rw [goGD_dec] | rw [goB_ite] | rw [goG_ite] | rw [goGD_ite]) <;> split <;> simp (disch := first | assumption | omega | (simp only [go_sem]; done) | (simp only [go_sem, List.length_append, List.length_take, List.length_drop]; omega) | decide) only [go_sem, ↓reduceIte, ↓Nat.reduceEqDiff, ↓Nat.reduceAdd, ↓Nat.reduceLeDiff, ↓Nat.reduceLT, ↓Nat.reduceMul, ↓Nat.reduceSub, ↓Nat.reduceBNe, ↓Nat.reduceBEq, reduceCtorEq, Nat.le_refl, decide_eq_true_eq, Bool.not_eq_true, decide_eq_false_iff_not, decide_not, i64_id, *, c47, c48])
  all_goals first | (simp [matchB, *]; done) | (simp_all [matchB]; done)

theorem c53 (b : Bool) : evF env (m + 1) true 53 [V.bool b] = some (.int .i64 (if b then -1 else 1), []) := by
  cases b <;> kernel_rfl

theorem c120 (s : Sl (BitVec 32)) (hs : s.l.length ≤ 1000000) : evF env (m + 1) true 120 [.c (.t (s.t u32c))] = some (.c (.t (s.t u32c)), []) := by
  rw [evF_go rfl fn120 rfl]
  simp (disch := first | assumption | omega | (simp only [go_sem]; done) | (simp only [go_sem, List.length_append, List.length_take, List.length_drop]; omega) | decide) only [go_sem, ↓reduceIte, ↓Nat.reduceEqDiff, ↓Nat.reduceAdd, ↓Nat.reduceLeDiff, ↓Nat.reduceLT, ↓Nat.reduceMul, ↓Nat.reduceSub, ↓Nat.reduceBNe, ↓Nat.reduceBEq, reduceCtorEq, Nat.le_refl, decide_eq_true_eq, Bool.not_eq_true, decide_eq_false_iff_not, decide_not, i64_id, y120]
  cases s with
  | nil => simp (disch := first | assumption | omega | (simp only [go_sem]; done) | (simp only [go_sem, List.length_append, List.length_take, List.length_drop]; omega) | decide) only [go_sem, ↓reduceIte, ↓Nat.reduceEqDiff, ↓Nat.reduceAdd, ↓Nat.reduceLeDiff, ↓Nat.reduceLT, ↓Nat.reduceMul, ↓Nat.reduceSub, ↓Nat.reduceBNe, ↓Nat.reduceBEq, reduceCtorEq, Nat.le_refl, decide_eq_true_eq, Bool.not_eq_true, decide_eq_false_iff_not, decide_not, i64_id, Sl.isNil, Sl.t, Sl.l]
  | mk l =>
    simp (disch := first | assumption | omega | (simp only [go_sem]; done) | (simp only [go_sem, List.length_append, List.length_take, List.length_drop]; omega) | decide) only [go_sem, ↓reduceIte, ↓Nat.reduceEqDiff, ↓Nat.reduceAdd, ↓Nat.reduceLeDiff, ↓Nat.reduceLT, ↓Nat.reduceMul, ↓Nat.reduceSub, ↓Nat.reduceBNe, ↓Nat.reduceBEq, reduceCtorEq, Nat.le_refl, decide_eq_true_eq, Bool.not_eq_true, decide_eq_false_iff_not, decide_not, i64_id, Sl.isNil]
    cases l with
    | nil => simp (disch := first | assumption | omega | (simp only [go_sem]; done) | (simp only [go_sem, List.length_append, List.length_take, List.length_drop]; omega) | decide) only [go_sem, ↓reduceIte, ↓Nat.reduceEqDiff, ↓Nat.reduceAdd, ↓Nat.reduceLeDiff, ↓Nat.reduceLT, ↓Nat.reduceMul, ↓Nat.reduceSub, ↓Nat.reduceBNe, ↓Nat.reduceBEq, reduceCtorEq, Nat.le_refl, decide_eq_true_eq, Bool.not_eq_true, decide_eq_false_iff_not, decide_not, i64_id, Sl.t, Sl.l]
    | cons x l =>
      simp only [Sl.l, List.length_cons] at hs
      have hx : (u32c x ++ List.flatMap u32c l).length = l.length + 1 := by simpa using fx_u32.len (x :: l)
      simp (disch := first | assumption | omega | (simp only [go_sem]; done) | (simp only [go_sem, List.length_append, List.length_take, List.length_drop]; omega) | decide) only [go_sem, ↓reduceIte, ↓Nat.reduceEqDiff, ↓Nat.reduceAdd, ↓Nat.reduceLeDiff, ↓Nat.reduceLT, ↓Nat.reduceMul, ↓Nat.reduceSub, ↓Nat.reduceBNe, ↓Nat.reduceBEq, reduceCtorEq, Nat.le_refl, decide_eq_true_eq, Bool.not_eq_true, decide_eq_false_iff_not, decide_not, i64_id, Sl.l, Sl.t, hs, hx]
      rw [List.take_of_length_le (by omega)]
end Go.Proofs.Ytcijgahloogooaa
