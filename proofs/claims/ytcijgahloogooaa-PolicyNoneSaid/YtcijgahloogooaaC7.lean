/- What the sort of few numbers answers. -/
import Derived.Test.YtcijgahloogooaaC4
namespace Go.Proofs.Ytcijgahloogooaa
open Go Go.Proofs.Sg
set_option maxRecDepth 10000
set_option maxHeartbeats 8000000
set_option linter.unusedSimpArgs false
set_option linter.unusedVariables false
variable (m : Nat)

abbrev at0 (l : List (BitVec 32)) (p : Nat) : BitVec 32 := l.getD p 0
def swL (l : List (BitVec 32)) (i j : Nat) : List (BitVec 32) := (l.set i (l.getD j 0)).set j (l.getD i 0)
theorem getD_lt {l : List (BitVec 32)} {i : Nat} (h : i < l.length) : l.getD i 0 = l[i] := by
  rw [List.getD_eq_getElem?_getD, List.getElem?_eq_getElem h]; rfl
theorem swL_perm {l : List (BitVec 32)} {i j : Nat} (hi : i < l.length) (hj : j < l.length) : (swL l i j).Perm l := by
  have h := (Array.swap_perm (xs := l.toArray) (i := i) (j := j) (by simpa using hi) (by simpa using hj)).toList
  rw [Array.toList_swap] at h
  unfold swL
  rw [getD_lt hi, getD_lt hj]
  simpa using h
theorem swL_len {l : List (BitVec 32)} {i j : Nat} : (swL l i j).length = l.length := by simp [swL]
theorem swL_at {l : List (BitVec 32)} {i j p : Nat} (hi : i < l.length) (hj : j < l.length) : (swL l i j).getD p 0 = if p = j then l.getD i 0 else if p = i then l.getD j 0 else l.getD p 0 := by
  unfold swL
  simp only [List.getD_eq_getElem?_getD, List.getElem?_set, List.length_set]
  by_cases h1 : p = j
  · subst h1
    rw [if_pos rfl, if_pos hj, if_pos rfl]; rfl
  · rw [if_neg (fun e => h1 e.symm), if_neg h1]
    by_cases h2 : p = i
    · subst h2
      rw [if_pos rfl, if_pos hi, if_pos rfl]; rfl
    · rw [if_neg (fun e => h2 e.symm), if_neg h2]
theorem arr_get {l : List (BitVec 32)} {i : Nat} (h : i < l.length) : (List.map C.t (l.flatMap u32c))[i]? = some (.t (.v (U32 (l.getD i 0)))) := by
  rw [getD_lt h]
  have : l.flatMap u32c = l.map fun x => T.v (U32 x) := by
    clear h
    induction l with
    | nil => rfl
    | cons x l ih => rw [List.flatMap_cons, ih]; rfl
  rw [this]
  simp [List.getElem?_eq_getElem h]
theorem arr_set {l : List (BitVec 32)} {i : Nat} {x : BitVec 32} (h : i < l.length) : (l.flatMap u32c).take i ++ [T.v (U32 x)] ++ (l.flatMap u32c).drop (i + 1) = (l.set i x).flatMap u32c := by
  have e1 := fx_u32.take i l
  have e2 := fx_u32.drop (i + 1) l
  rw [Nat.mul_one] at e1 e2
  rw [e1, e2, List.set_eq_take_append_cons_drop, if_pos h, List.flatMap_append, List.flatMap_cons]
  simp [u32c]
theorem vStoreB_u32 {k id off e : Nat} {lk : Look} {l : List (BitVec 32)} {x : BitVec 32} (h : off < l.length) :
    vStoreB k id off 1 lk [.t (.v (U32 x))] (some (.arr e (l.flatMap u32c))) = some (.c .any, [(id, .arr e ((l.set off x).flatMap u32c))], k) := by
  unfold vStoreB
  dsimp only
  rw [if_pos (by rw [len_u32]; omega)]
  show (if _ then _ else _) = _
  rw [if_pos (by simp), ← arr_set h]
  rfl

def Srt (l : List (BitVec 32)) (a b : Nat) : Prop := ∀ p q, a ≤ p → p < q → q < b → (l.getD p 0).toNat ≤ (l.getD q 0).toNat
/-- A call that sorts a part of a slice in place. -/
def SortQ (id nn : Nat) (st : Tr Blk) (l : List (BitVec 32)) (a b : Nat) (r : Option (V × Tr Blk × Nat)) : Prop :=
  ∃ st' l', r = some (.tup [], st', nn) ∧ st'.get id = some (.arr 1 (l'.flatMap u32c)) ∧ (∀ j, j ≠ id → st'.get j = st.get j) ∧ l'.Perm l ∧ (∀ p, p < a ∨ b ≤ p → l'.getD p 0 = l.getD p 0) ∧ Srt l' a b

theorem c141 (x : BitVec 32) : evF env (m + 1) true 141 [V.p (U32 x)] = some (V.bool false, []) := by
  rw [evF_go rfl fn141 rfl]
  simp (disch := first | assumption | omega | (simp only [go_sem]; done) | (simp only [go_sem, List.length_append, List.length_take, List.length_drop]; omega) | decide) only [go_sem, ↓reduceIte, ↓Nat.reduceEqDiff, ↓Nat.reduceAdd, ↓Nat.reduceLeDiff, ↓Nat.reduceLT, ↓Nat.reduceMul, ↓Nat.reduceSub, ↓Nat.reduceBNe, ↓Nat.reduceBEq, reduceCtorEq, Nat.le_refl, decide_eq_true_eq, Bool.not_eq_true, decide_eq_false_iff_not, decide_not, i64_id, y141]
  try simp
theorem c167 (x y : BitVec 32) : evF env (m + 2) true 167 [V.p (U32 x), V.p (U32 y)] = some (V.bool (decide (x < y)), []) := by
  rw [evF_go rfl fn167 rfl]
  simp (disch := first | assumption | omega | (simp only [go_sem]; done) | (simp only [go_sem, List.length_append, List.length_take, List.length_drop]; omega) | decide) only [go_sem, ↓reduceIte, ↓Nat.reduceEqDiff, ↓Nat.reduceAdd, ↓Nat.reduceLeDiff, ↓Nat.reduceLT, ↓Nat.reduceMul, ↓Nat.reduceSub, ↓Nat.reduceBNe, ↓Nat.reduceBEq, reduceCtorEq, Nat.le_refl, decide_eq_true_eq, Bool.not_eq_true, decide_eq_false_iff_not, decide_not, i64_id, y167, c141]

theorem c161 (l : List (BitVec 32)) (id nn : Nat) (st : Tr Blk) (a b : Nat) (hab : a ≤ b) (hb : b ≤ l.length) (hl : l.length ≤ 1000000) (hst : st.get id = some (.arr 1 (l.flatMap u32c))) (hid : id < nn) :
    SortQ id nn st l a b (evR env (m + 3) 161 [.c (.own id 1 0 l.length), .int .i64 a, .int .i64 b] st nn) := by
  rw [evR_go fn161 rfl]
  simp (disch := first | assumption | omega | (simp only [go_sem]; done) | (simp only [go_sem, List.length_append, List.length_take, List.length_drop]; omega) | decide) only [go_sem, ↓reduceIte, ↓Nat.reduceEqDiff, ↓Nat.reduceAdd, ↓Nat.reduceLeDiff, ↓Nat.reduceLT, ↓Nat.reduceMul, ↓Nat.reduceSub, ↓Nat.reduceBNe, ↓Nat.reduceBEq, reduceCtorEq, Nat.le_refl, decide_eq_true_eq, Bool.not_eq_true, decide_eq_false_iff_not, decide_not, i64_id, y161]
  refine loop_Q _ (fun t k => ∃ (i : Nat) (cur : List (BitVec 32)), (b + 1 ≤ i + k) ∧ a + 1 ≤ i ∧ (i ≤ b ∨ i = a + 1) ∧ t.n = nn ∧ t.tm.get 0 = some (.c (.own id 1 0 l.length)) ∧ t.tm.get 1 = some (.int .i64 a) ∧ t.tm.get 2 = some (.int .i64 b) ∧ t.tm.get 6 = some (.int .i64 i) ∧ t.st.get id = some (.arr 1 (cur.flatMap u32c)) ∧ (∀ j, j ≠ id → t.st.get j = st.get j) ∧ cur.Perm l ∧ (∀ p, p < a ∨ b ≤ p → cur.getD p 0 = l.getD p 0) ∧ Srt cur a i) ?_ (b + 1) _ _ ?_ ?_
  rotate_left 1
  · show b + 1 < 1125899906842624
    omega
  · refine ⟨a + 1, l, by omega, by omega, .inr rfl, ?_, ?_, ?_, ?_, ?_, ?_, fun j _ => rfl, List.Perm.refl _, fun p _ => rfl, fun p q h1 h2 h3 => by omega⟩
    all_goals first | (simp (disch := first | assumption | omega | (simp only [go_sem]; done) | (simp only [go_sem, List.length_append, List.length_take, List.length_drop]; omega) | decide) only [go_sem, ↓reduceIte, ↓Nat.reduceEqDiff, ↓Nat.reduceAdd, ↓Nat.reduceLeDiff, ↓Nat.reduceLT, ↓Nat.reduceMul, ↓Nat.reduceSub, ↓Nat.reduceBNe, ↓Nat.reduceBEq, reduceCtorEq, Nat.le_refl, decide_eq_true_eq, Bool.not_eq_true, decide_eq_false_iff_not, decide_not, i64_id, hst]; done) | rfl | skip
    all_goals trace_state
  · rintro k ⟨tm, st1, n1⟩ q ⟨i, cur, hk, hai, hib, hn, h0, h1, h2, h6, hs, hoth, hperm, hout, hsrt⟩ ih
    dsimp only at hn h0 h1 h2 h6 hs hoth
    subst hn
    have hcl : cur.length = l.length := hperm.length_eq
    simp (disch := first | assumption | omega | (simp only [go_sem]; done) | (simp only [go_sem, List.length_append, List.length_take, List.length_drop]; omega) | decide) only [go_sem, ↓reduceIte, ↓Nat.reduceEqDiff, ↓Nat.reduceAdd, ↓Nat.reduceLeDiff, ↓Nat.reduceLT, ↓Nat.reduceMul, ↓Nat.reduceSub, ↓Nat.reduceBNe, ↓Nat.reduceBEq, reduceCtorEq, Nat.le_refl, decide_eq_true_eq, Bool.not_eq_true, decide_eq_false_iff_not, decide_not, i64_id, neqF, nbeqF, ltT, leT, beq_self_eq_true, h0, h1, h2, h6, hs]
    rw [goB_dec]
    split
    · rename_i hlt
      have hib' : i < b := by omega
      simp (disch := first | assumption | omega | (simp only [go_sem]; done) | (simp only [go_sem, List.length_append, List.length_take, List.length_drop]; omega) | decide) only [go_sem, ↓reduceIte, ↓Nat.reduceEqDiff, ↓Nat.reduceAdd, ↓Nat.reduceLeDiff, ↓Nat.reduceLT, ↓Nat.reduceMul, ↓Nat.reduceSub, ↓Nat.reduceBNe, ↓Nat.reduceBEq, reduceCtorEq, Nat.le_refl, decide_eq_true_eq, Bool.not_eq_true, decide_eq_false_iff_not, decide_not, i64_id, neqF, nbeqF, ltT, leT, beq_self_eq_true, h0, h1, h2, h6, hs]
      refine blk_cutQ _ (fun t => t.n = n1 ∧ t.tm.get 0 = some (.c (.own id 1 0 l.length)) ∧ t.tm.get 1 = some (.int .i64 a) ∧ t.tm.get 2 = some (.int .i64 b) ∧ t.tm.get 6 = some (.int .i64 i) ∧ (∀ j, j ≠ id → t.st.get j = st.get j) ∧ ∃ cur, t.st.get id = some (.arr 1 (cur.flatMap u32c)) ∧ cur.Perm l ∧ (∀ p, p < a ∨ b ≤ p → cur.getD p 0 = l.getD p 0) ∧ Srt cur a (i + 1)) ?_ ?_
      · refine loop_N (fun t k => t.n = n1 ∧ t.tm.get 0 = some (.c (.own id 1 0 l.length)) ∧ t.tm.get 1 = some (.int .i64 a) ∧ t.tm.get 2 = some (.int .i64 b) ∧ t.tm.get 6 = some (.int .i64 i) ∧ (∀ j, j ≠ id → t.st.get j = st.get j) ∧ ∃ (j : Nat) (cur : List (BitVec 32)), j ≤ a + k ∧ a ≤ j ∧ j ≤ i ∧ t.tm.get 7 = some (.int .i64 j) ∧ t.st.get id = some (.arr 1 (cur.flatMap u32c)) ∧ cur.Perm l ∧ (∀ p, p < a ∨ b ≤ p → cur.getD p 0 = l.getD p 0) ∧
          (∀ p q, a ≤ p → p < q → q ≤ i → p ≠ j → q ≠ j → (cur.getD p 0).toNat ≤ (cur.getD q 0).toNat) ∧ (∀ q, j < q → q ≤ i → (cur.getD j 0).toNat ≤ (cur.getD q 0).toNat)) ?_ i _ _ ?_ ?_
        rotate_left 1
        · show i < 1125899906842624
          omega
        · refine ⟨rfl, ?_, ?_, ?_, ?_, hoth, i, cur, by omega, by omega, by omega, ?_, ?_, hperm, hout, fun p q h1 h2 h3 h4 h5 => hsrt p q h1 h2 (by omega), fun q h1 h2 => by omega⟩
          all_goals first | (simp (disch := first | assumption | omega | (simp only [go_sem]; done) | (simp only [go_sem, List.length_append, List.length_take, List.length_drop]; omega) | decide) only [go_sem, ↓reduceIte, ↓Nat.reduceEqDiff, ↓Nat.reduceAdd, ↓Nat.reduceLeDiff, ↓Nat.reduceLT, ↓Nat.reduceMul, ↓Nat.reduceSub, ↓Nat.reduceBNe, ↓Nat.reduceBEq, reduceCtorEq, Nat.le_refl, decide_eq_true_eq, Bool.not_eq_true, decide_eq_false_iff_not, decide_not, i64_id, h0, h1, h2, h6, hs]; done) | (simp (disch := first | assumption | omega | (simp only [go_sem]; done) | (simp only [go_sem, List.length_append, List.length_take, List.length_drop]; omega) | decide) only [go_sem, ↓reduceIte, ↓Nat.reduceEqDiff, ↓Nat.reduceAdd, ↓Nat.reduceLeDiff, ↓Nat.reduceLT, ↓Nat.reduceMul, ↓Nat.reduceSub, ↓Nat.reduceBNe, ↓Nat.reduceBEq, reduceCtorEq, Nat.le_refl, decide_eq_true_eq, Bool.not_eq_true, decide_eq_false_iff_not, decide_not, i64_id, h0, h1, h2, h6, hs]; rfl)
        · clear h0 h1 h2 h6 hs hoth hperm hout hsrt hcl ih
          rintro k ⟨tm, st1, n1⟩ q ⟨hn, h0, h1, h2, h6, hoth, j, cur, hjk, haj, hji, h7, hs, hperm, hout, hA, hB⟩ ih
          dsimp only at hn h0 h1 h2 h6 h7 hs hoth
          subst hn
          have hcl : cur.length = l.length := hperm.length_eq
          simp (disch := first | assumption | omega | (simp only [go_sem]; done) | (simp only [go_sem, List.length_append, List.length_take, List.length_drop]; omega) | decide) only [go_sem, ↓reduceIte, ↓Nat.reduceEqDiff, ↓Nat.reduceAdd, ↓Nat.reduceLeDiff, ↓Nat.reduceLT, ↓Nat.reduceMul, ↓Nat.reduceSub, ↓Nat.reduceBNe, ↓Nat.reduceBEq, reduceCtorEq, Nat.le_refl, decide_eq_true_eq, Bool.not_eq_true, decide_eq_false_iff_not, decide_not, i64_id, neqF, nbeqF, ltT, leT, beq_self_eq_true, h0, h1, h2, h6, h7, hs]
          rw [goGD_dec]
          split
          · rename_i hgt
            have hj1 : ((j : Int) - 1).toNat = j - 1 := by omega
            have hg1 := arr_get (l := cur) (i := j) (by omega)
            have hg2 := arr_get (l := cur) (i := j - 1) (by omega)
            simp (disch := first | assumption | omega | (simp only [go_sem]; done) | (simp only [go_sem, List.length_append, List.length_take, List.length_drop]; omega) | decide) only [go_sem, ↓reduceIte, ↓Nat.reduceEqDiff, ↓Nat.reduceAdd, ↓Nat.reduceLeDiff, ↓Nat.reduceLT, ↓Nat.reduceMul, ↓Nat.reduceSub, ↓Nat.reduceBNe, ↓Nat.reduceBEq, reduceCtorEq, Nat.le_refl, decide_eq_true_eq, Bool.not_eq_true, decide_eq_false_iff_not, decide_not, i64_id, neqF, nbeqF, ltT, leT, beq_self_eq_true, h0, h1, h2, h6, h7, hs, hgt, hj1, hg1, hg2, Int.toNat_natCast, c167]
            rw [goB_dec]
            split
            · rename_i hless
              rw [BitVec.lt_def] at hless
              have hsw : (cur.set j (cur.getD (j - 1) 0)).set (j - 1) (cur.getD j 0) = swL cur j (j - 1) := rfl
              have hs1 := vStoreB_u32 (k := n1) (id := id) (e := 1) (lk := st1.get) (l := cur) (off := j) (x := cur.getD (j - 1) 0) (by omega)
              have hs2 := fun lk => vStoreB_u32 (k := n1) (id := id) (e := 1) (lk := lk) (l := cur.set j (cur.getD (j - 1) 0)) (off := j - 1) (x := cur.getD j 0) (by rw [List.length_set]; omega)
              simp (disch := first | assumption | omega | (simp only [go_sem]; done) | (simp only [go_sem, List.length_append, List.length_take, List.length_drop]; omega) | decide) only [go_sem, ↓reduceIte, ↓Nat.reduceEqDiff, ↓Nat.reduceAdd, ↓Nat.reduceLeDiff, ↓Nat.reduceLT, ↓Nat.reduceMul, ↓Nat.reduceSub, ↓Nat.reduceBNe, ↓Nat.reduceBEq, reduceCtorEq, Nat.le_refl, decide_eq_true_eq, Bool.not_eq_true, decide_eq_false_iff_not, decide_not, i64_id, neqF, nbeqF, ltT, leT, beq_self_eq_true, h0, h1, h2, h6, h7, hs, hgt, hj1, hg1, hg2, Int.toNat_natCast, hs1, hs2, hsw, hid]
              refine ih (k - 1) _ (by omega) ⟨rfl, ?_, ?_, ?_, ?_, ?_, j - 1, swL cur j (j - 1), by omega, by omega, by omega, ?_, ?_, (swL_perm (by omega) (by omega)).trans hperm, ?_, ?_, ?_⟩
              · simp (disch := first | assumption | omega | (simp only [go_sem]; done) | (simp only [go_sem, List.length_append, List.length_take, List.length_drop]; omega) | decide) only [go_sem, ↓reduceIte, ↓Nat.reduceEqDiff, ↓Nat.reduceAdd, ↓Nat.reduceLeDiff, ↓Nat.reduceLT, ↓Nat.reduceMul, ↓Nat.reduceSub, ↓Nat.reduceBNe, ↓Nat.reduceBEq, reduceCtorEq, Nat.le_refl, decide_eq_true_eq, Bool.not_eq_true, decide_eq_false_iff_not, decide_not, i64_id, neqF, nbeqF, ltT, leT, beq_self_eq_true, h0]
              · simp (disch := first | assumption | omega | (simp only [go_sem]; done) | (simp only [go_sem, List.length_append, List.length_take, List.length_drop]; omega) | decide) only [go_sem, ↓reduceIte, ↓Nat.reduceEqDiff, ↓Nat.reduceAdd, ↓Nat.reduceLeDiff, ↓Nat.reduceLT, ↓Nat.reduceMul, ↓Nat.reduceSub, ↓Nat.reduceBNe, ↓Nat.reduceBEq, reduceCtorEq, Nat.le_refl, decide_eq_true_eq, Bool.not_eq_true, decide_eq_false_iff_not, decide_not, i64_id, neqF, nbeqF, ltT, leT, beq_self_eq_true, h1]
              · simp (disch := first | assumption | omega | (simp only [go_sem]; done) | (simp only [go_sem, List.length_append, List.length_take, List.length_drop]; omega) | decide) only [go_sem, ↓reduceIte, ↓Nat.reduceEqDiff, ↓Nat.reduceAdd, ↓Nat.reduceLeDiff, ↓Nat.reduceLT, ↓Nat.reduceMul, ↓Nat.reduceSub, ↓Nat.reduceBNe, ↓Nat.reduceBEq, reduceCtorEq, Nat.le_refl, decide_eq_true_eq, Bool.not_eq_true, decide_eq_false_iff_not, decide_not, i64_id, neqF, nbeqF, ltT, leT, beq_self_eq_true, h2]
              · simp (disch := first | assumption | omega | (simp only [go_sem]; done) | (simp only [go_sem, List.length_append, List.length_take, List.length_drop]; omega) | decide) only [go_sem, ↓reduceIte, ↓Nat.reduceEqDiff, ↓Nat.reduceAdd, ↓Nat.reduceLeDiff, ↓Nat.reduceLT, ↓Nat.reduceMul, ↓Nat.reduceSub, ↓Nat.reduceBNe, ↓Nat.reduceBEq, reduceCtorEq, Nat.le_refl, decide_eq_true_eq, Bool.not_eq_true, decide_eq_false_iff_not, decide_not, i64_id, neqF, nbeqF, ltT, leT, beq_self_eq_true, h6]
              · intro x hx
                simp (disch := first | assumption | omega | (simp only [go_sem]; done) | (simp only [go_sem, List.length_append, List.length_take, List.length_drop]; omega) | decide) only [go_sem, ↓reduceIte, ↓Nat.reduceEqDiff, ↓Nat.reduceAdd, ↓Nat.reduceLeDiff, ↓Nat.reduceLT, ↓Nat.reduceMul, ↓Nat.reduceSub, ↓Nat.reduceBNe, ↓Nat.reduceBEq, reduceCtorEq, Nat.le_refl, decide_eq_true_eq, Bool.not_eq_true, decide_eq_false_iff_not, decide_not, i64_id, neqF, nbeqF, ltT, leT, beq_self_eq_true, hx, hoth]
                all_goals exact hoth x hx
              · simp (disch := first | assumption | omega | (simp only [go_sem]; done) | (simp only [go_sem, List.length_append, List.length_take, List.length_drop]; omega) | decide) only [go_sem, ↓reduceIte, ↓Nat.reduceEqDiff, ↓Nat.reduceAdd, ↓Nat.reduceLeDiff, ↓Nat.reduceLT, ↓Nat.reduceMul, ↓Nat.reduceSub, ↓Nat.reduceBNe, ↓Nat.reduceBEq, reduceCtorEq, Nat.le_refl, decide_eq_true_eq, Bool.not_eq_true, decide_eq_false_iff_not, decide_not, i64_id, neqF, nbeqF, ltT, leT, beq_self_eq_true]
                all_goals rw [show ((j - 1 : Nat) : Int) = (j : Int) - 1 by omega]
              · simp (disch := first | assumption | omega | (simp only [go_sem]; done) | (simp only [go_sem, List.length_append, List.length_take, List.length_drop]; omega) | decide) only [go_sem, ↓reduceIte, ↓Nat.reduceEqDiff, ↓Nat.reduceAdd, ↓Nat.reduceLeDiff, ↓Nat.reduceLT, ↓Nat.reduceMul, ↓Nat.reduceSub, ↓Nat.reduceBNe, ↓Nat.reduceBEq, reduceCtorEq, Nat.le_refl, decide_eq_true_eq, Bool.not_eq_true, decide_eq_false_iff_not, decide_not, i64_id, neqF, nbeqF, ltT, leT, beq_self_eq_true]
              · intro p hp
                rw [swL_at (by omega) (by omega), if_neg (by omega), if_neg (by omega)]
                exact hout p hp
              · intro p q h1 h2 h3 h4 h5
                rw [swL_at (by omega) (by omega), swL_at (by omega) (by omega), if_neg h4, if_neg h5]
                split
                · split
                  · omega
                  · rename_i e1 e2
                    have := hA (j - 1) q (by omega) (by omega) h3 (by omega) (by omega)
                    omega
                · split
                  · rename_i e1 e2
                    have := hA p (j - 1) h1 (by omega) (by omega) (by omega) (by omega)
                    omega
                  · rename_i e1 e2
                    exact hA p q h1 h2 h3 e1 e2
              · intro q h1 h2
                rw [swL_at (by omega) (by omega), swL_at (by omega) (by omega), if_pos rfl, if_neg (by omega)]
                split
                · omega
                · rename_i e1
                  exact hB q (by omega) h2
            · rename_i hless
              rw [BitVec.lt_def] at hless
              simp (disch := first | assumption | omega | (simp only [go_sem]; done) | (simp only [go_sem, List.length_append, List.length_take, List.length_drop]; omega) | decide) only [go_sem, ↓reduceIte, ↓Nat.reduceEqDiff, ↓Nat.reduceAdd, ↓Nat.reduceLeDiff, ↓Nat.reduceLT, ↓Nat.reduceMul, ↓Nat.reduceSub, ↓Nat.reduceBNe, ↓Nat.reduceBEq, reduceCtorEq, Nat.le_refl, decide_eq_true_eq, Bool.not_eq_true, decide_eq_false_iff_not, decide_not, i64_id, neqF, nbeqF, ltT, leT, beq_self_eq_true, h0, h1, h2, h6, h7, hs]
              refine ⟨hoth, cur, rfl, hperm, hout, fun p q h1 h2 h3 => ?_⟩
              by_cases e1 : p = j
              · subst e1; exact hB q h2 (by omega)
              · by_cases e2 : q = j
                · subst e2
                  by_cases e3 : p = q - 1
                  · subst e3; omega
                  · have := hA p (q - 1) h1 (by omega) (by omega) (by omega) (by omega)
                    omega
                · exact hA p q h1 h2 (by omega) e1 e2
          · rename_i hgt
            have hja : j = a := by omega
            subst hja
            simp (disch := first | assumption | omega | (simp only [go_sem]; done) | (simp only [go_sem, List.length_append, List.length_take, List.length_drop]; omega) | decide) only [go_sem, ↓reduceIte, ↓Nat.reduceEqDiff, ↓Nat.reduceAdd, ↓Nat.reduceLeDiff, ↓Nat.reduceLT, ↓Nat.reduceMul, ↓Nat.reduceSub, ↓Nat.reduceBNe, ↓Nat.reduceBEq, reduceCtorEq, Nat.le_refl, decide_eq_true_eq, Bool.not_eq_true, decide_eq_false_iff_not, decide_not, i64_id, neqF, nbeqF, ltT, leT, beq_self_eq_true, h0, h1, h2, h6, h7, hs, hgt]
            refine ⟨hoth, cur, rfl, hperm, hout, fun p q h1 h2 h3 => ?_⟩
            by_cases e1 : p = j
            · subst e1; exact hB q h2 (by omega)
            · exact hA p q h1 h2 (by omega) e1 (by omega)
      clear h0 h1 h2 h6 hs hoth hperm hout hsrt hcl
      rintro ⟨tm, st1, n1⟩ ⟨hn, h0, h1, h2, h6, hoth, cur, hs, hperm, hout, hsrt⟩
      dsimp only at hn h0 h1 h2 h6 hs hoth
      subst hn
      simp (disch := first | assumption | omega | (simp only [go_sem]; done) | (simp only [go_sem, List.length_append, List.length_take, List.length_drop]; omega) | decide) only [go_sem, ↓reduceIte, ↓Nat.reduceEqDiff, ↓Nat.reduceAdd, ↓Nat.reduceLeDiff, ↓Nat.reduceLT, ↓Nat.reduceMul, ↓Nat.reduceSub, ↓Nat.reduceBNe, ↓Nat.reduceBEq, reduceCtorEq, Nat.le_refl, decide_eq_true_eq, Bool.not_eq_true, decide_eq_false_iff_not, decide_not, i64_id, neqF, nbeqF, ltT, leT, beq_self_eq_true, h0, h1, h2, h6, hs]
      refine ih (k - 1) _ (by omega) ⟨i + 1, cur, by omega, by omega, by omega, rfl, ?_, ?_, ?_, ?_, ?_, hoth, hperm, hout, hsrt⟩
      · simp (disch := first | assumption | omega | (simp only [go_sem]; done) | (simp only [go_sem, List.length_append, List.length_take, List.length_drop]; omega) | decide) only [go_sem, ↓reduceIte, ↓Nat.reduceEqDiff, ↓Nat.reduceAdd, ↓Nat.reduceLeDiff, ↓Nat.reduceLT, ↓Nat.reduceMul, ↓Nat.reduceSub, ↓Nat.reduceBNe, ↓Nat.reduceBEq, reduceCtorEq, Nat.le_refl, decide_eq_true_eq, Bool.not_eq_true, decide_eq_false_iff_not, decide_not, i64_id, neqF, nbeqF, ltT, leT, beq_self_eq_true, h0]
      · simp (disch := first | assumption | omega | (simp only [go_sem]; done) | (simp only [go_sem, List.length_append, List.length_take, List.length_drop]; omega) | decide) only [go_sem, ↓reduceIte, ↓Nat.reduceEqDiff, ↓Nat.reduceAdd, ↓Nat.reduceLeDiff, ↓Nat.reduceLT, ↓Nat.reduceMul, ↓Nat.reduceSub, ↓Nat.reduceBNe, ↓Nat.reduceBEq, reduceCtorEq, Nat.le_refl, decide_eq_true_eq, Bool.not_eq_true, decide_eq_false_iff_not, decide_not, i64_id, neqF, nbeqF, ltT, leT, beq_self_eq_true, h1]
      · simp (disch := first | assumption | omega | (simp only [go_sem]; done) | (simp only [go_sem, List.length_append, List.length_take, List.length_drop]; omega) | decide) only [go_sem, ↓reduceIte, ↓Nat.reduceEqDiff, ↓Nat.reduceAdd, ↓Nat.reduceLeDiff, ↓Nat.reduceLT, ↓Nat.reduceMul, ↓Nat.reduceSub, ↓Nat.reduceBNe, ↓Nat.reduceBEq, reduceCtorEq, Nat.le_refl, decide_eq_true_eq, Bool.not_eq_true, decide_eq_false_iff_not, decide_not, i64_id, neqF, nbeqF, ltT, leT, beq_self_eq_true, h2]
      · simp (disch := first | assumption | omega | (simp only [go_sem]; done) | (simp only [go_sem, List.length_append, List.length_take, List.length_drop]; omega) | decide) only [go_sem, ↓reduceIte, ↓Nat.reduceEqDiff, ↓Nat.reduceAdd, ↓Nat.reduceLeDiff, ↓Nat.reduceLT, ↓Nat.reduceMul, ↓Nat.reduceSub, ↓Nat.reduceBNe, ↓Nat.reduceBEq, reduceCtorEq, Nat.le_refl, decide_eq_true_eq, Bool.not_eq_true, decide_eq_false_iff_not, decide_not, i64_id, neqF, nbeqF, ltT, leT, beq_self_eq_true]
        rfl
      · simp (disch := first | assumption | omega | (simp only [go_sem]; done) | (simp only [go_sem, List.length_append, List.length_take, List.length_drop]; omega) | decide) only [go_sem, ↓reduceIte, ↓Nat.reduceEqDiff, ↓Nat.reduceAdd, ↓Nat.reduceLeDiff, ↓Nat.reduceLT, ↓Nat.reduceMul, ↓Nat.reduceSub, ↓Nat.reduceBNe, ↓Nat.reduceBEq, reduceCtorEq, Nat.le_refl, decide_eq_true_eq, Bool.not_eq_true, decide_eq_false_iff_not, decide_not, i64_id, neqF, nbeqF, ltT, leT, beq_self_eq_true, hs]
    · rename_i hlt
      simp (disch := first | assumption | omega | (simp only [go_sem]; done) | (simp only [go_sem, List.length_append, List.length_take, List.length_drop]; omega) | decide) only [go_sem, ↓reduceIte, ↓Nat.reduceEqDiff, ↓Nat.reduceAdd, ↓Nat.reduceLeDiff, ↓Nat.reduceLT, ↓Nat.reduceMul, ↓Nat.reduceSub, ↓Nat.reduceBNe, ↓Nat.reduceBEq, reduceCtorEq, Nat.le_refl, decide_eq_true_eq, Bool.not_eq_true, decide_eq_false_iff_not, decide_not, i64_id, neqF, nbeqF, ltT, leT, beq_self_eq_true, h0, h1, h2, h6, hs]
      exact ⟨st1, cur, rfl, hs, hoth, hperm, hout, fun p q h1 h2 h3 => hsrt p q h1 h2 (by omega)⟩
end Go.Proofs.Ytcijgahloogooaa
