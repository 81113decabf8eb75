/- PolicyNone over the evaluator. -/
import Derived.Test.YtcijgahloogooaaCb
import Derived.Test.YtcijgahloogooaaC6
namespace Go.Proofs.Ytcijgahloogooaa
open Go Go.Proofs.Sg
set_option maxRecDepth 10000
set_option maxHeartbeats 8000000
set_option linter.unusedSimpArgs false
set_option linter.unusedVariables false

theorem wide_nilOr {l : List Seg} {p : Sl Seg} (h : wide p) (e : p.l = l) : wide (nilOr l) := by
  unfold wide; rw [nilOr_l, ← e]; exact h
theorem pathEq_hard (l : List Seg) : pathEq (nilOr l) (nilOr (l.map hard)) := by
  refine ⟨by rw [nilOr_l, nilOr_l, List.length_map], fun i => ?_⟩
  unfold Sl.at
  rw [nilOr_l, nilOr_l]
  simp only [List.getD_eq_getElem?_getD, List.getElem?_map]
  cases l[i.toNat]? with
  | none => exact ⟨rfl, rfl⟩
  | some x => exact ⟨rfl, rfl⟩
theorem canon_eq (t : Attrs) : attrsEq (canonP t (nilOr (canL t.comms.l))) (canonR t) := ⟨rfl, pathEq_hard _, rfl, rfl, rfl, rfl, rfl, rfl, rfl⟩
theorem tame_wide (a : Attrs) (asn : BitVec 32) : wide (tame a asn).path := by
  refine ⟨by show 1 ≤ 1000000; omega, fun x hx => ?_⟩
  obtain rfl : x = ⟨2, .mk (pathL asn a.path.l 2)⟩ := by simpa [tame, Sl.l] using hx
  show (pathL asn a.path.l 2).length ≤ 1000000
  rw [pathL, List.length_cons, List.length_map, List.length_take]; omega
theorem clamp_range (n : Int) : 0 ≤ clampB n ∧ clampB n ≤ 32 := by
  unfold clampB; split
  · omega
  · split <;> omega
theorem mask_zero : maskB 0 = 0 := rfl

theorem c21' (m : Nat) : evF env (m + 20) true 21 [] = some (V.bool true, []) := by kernel_rfl

theorem law4_data (r : Rule) (n : BitVec 32) (size : Int) (a : Attrs) : evF env 40 true 4 [ruleV r, V.p (U32 n), .int .i64 size, attrsV a] = some (V.bool true, []) := by
  have hc14 := c14_one 35 r
  obtain ⟨t, ht⟩ : ∃ t, t = tame a 65001 := ⟨_, rfl⟩
  have h16 : evF env 39 true 16 [attrsV a, V.p (U32 65001)] = some (attrsV t, []) := by rw [ht]; exact c16 37 a 65001
  obtain ⟨pn, hpn⟩ : ∃ pn, pn = ofB n (clampB (within size 0 32)) := ⟨_, rfl⟩
  obtain ⟨pl, hpl⟩ : ∃ pl, pl = clampB (within size 0 32) := ⟨_, rfl⟩
  have h24 : evF env 39 true 24 [V.p (U32 n), .int .i64 size] = some (pfx pn pl, []) := by rw [hpn, hpl]; exact c24 36 n size
  obtain ⟨rr, hrr⟩ : ∃ rr, rr = ruleOf 0 r := ⟨_, rfl⟩
  have h14 : evF env 39 true 14 [.c (.t ((Sl.mk [r]).t ruleC))] = some (.c (.t ((Sl.mk [rr]).t ruleC)), []) := by rw [hrr]; exact hc14
  have hcl : t.comms.l.length ≤ 2 := by
    rw [ht]
    show (nilOr (canL ((a.comms.l.take 2).map commT))).l.length ≤ 2
    have := canL_len ((a.comms.l.take 2).map commT)
    rw [nilOr_l]
    rw [List.length_map, List.length_take] at this
    omega
  have hcl6 : t.comms.l.length ≤ 1000000 := by omega
  have hr := clamp_range (within size 0 32)
  rw [← hpl] at hr
  obtain ⟨hr0, hr1⟩ := hr
  have hpr : rightB pn pl = true := by
    rw [hpn, ← hpl]
    simp [rightB, ofB, hr0, hr1, BitVec.and_assoc]
  have hall : matchB ⟨0, 0, 0, 32, 0, false, false, 0, false, 0, 0, 0⟩ pn pl t.comms.l = true := by
    have e : rightB 0 0 = true := rfl
    have e' : rightB 0#32 0 = true := rfl
    simp [matchB, coversB, hasB, hpr, e, e', mask_zero, hr0, hr1]
  have htw : wide t.path := by rw [ht]; exact tame_wide _ _
  have m1 := c18 34 ⟨0, 0, 0, 32, 0, false, false, 0, false, 0, 0, 0⟩ pn pl t hcl6
  have m2 := c18 34 rr pn pl t hcl6
  have m3 := c18 34 { rr with comm := 0 } pn pl t hcl6
  have m4 := c18 34 { rr with comm := 0, lo := 0, hi := 32 } pn pl t hcl6
  rw [hall] at m1
  have hM34 : matchB { rr with comm := 0 } pn pl t.comms.l = (matchB { rr with comm := 0, lo := 0, hi := 32 } pn pl t.comms.l && decide (rr.lo ≤ pl) && decide (pl ≤ rr.hi)) := by
    simp [matchB, hr0, hr1, Bool.and_assoc]
  have hM23 : matchB rr pn pl t.comms.l = (matchB { rr with comm := 0 } pn pl t.comms.l && decide (rr.comm = 0 ∨ rr.comm ∈ t.comms.l)) := by
    simp [matchB, Bool.and_assoc]
  generalize matchB { rr with comm := 0, lo := 0, hi := 32 } pn pl t.comms.l = M4 at m4 hM34
  generalize matchB { rr with comm := 0 } pn pl t.comms.l = M3 at m3 hM34 hM23
  generalize matchB rr pn pl t.comms.l = M2 at m2 hM23
  dsimp only [ruleV] at m1 m2 m3 m4
  have hats : (Sl.mk [rr]).at 0 = rr := rfl
  have hlts : (Sl.mk [rr]).l.length = 1 := rfl
  have h14' : evF env 39 true 14 [.c (.t (.sl 1 (ruleC r)))] = some (.c (.t ((Sl.mk [rr]).t ruleC)), []) := by
    rw [← h14, Sl.t]; simp
  dsimp only [ruleC] at h14'
  have hsc : T.scalar ((Sl.mk [rr]).t ruleC) = false := rfl
  rw [evF_go rfl fn4 rfl]
  simp (disch := first | assumption | omega | (simp only [go_sem]; done) | (simp only [go_sem, List.length_append, List.length_take, List.length_drop]; omega) | decide) only [go_sem, ↓reduceIte, ↓Nat.reduceEqDiff, ↓Nat.reduceAdd, ↓Nat.reduceLeDiff, ↓Nat.reduceLT, ↓Nat.reduceMul, ↓Nat.reduceSub, ↓Nat.reduceBNe, ↓Nat.reduceBEq, reduceCtorEq, Nat.le_refl, decide_eq_true_eq, Bool.not_eq_true, decide_eq_false_iff_not, decide_not, i64_id, y4, h24, h16, m1]
  simp (disch := first | assumption | omega | (simp only [go_sem]; done) | (simp only [go_sem, List.length_append, List.length_take, List.length_drop]; omega) | decide) only [go_sem, ↓reduceIte, ↓Nat.reduceEqDiff, ↓Nat.reduceAdd, ↓Nat.reduceLeDiff, ↓Nat.reduceLT, ↓Nat.reduceMul, ↓Nat.reduceSub, ↓Nat.reduceBNe, ↓Nat.reduceBEq, reduceCtorEq, Nat.le_refl, decide_eq_true_eq, Bool.not_eq_true, decide_eq_false_iff_not, decide_not, i64_id, hsc, h14', hats, hlts, ruleC, m2, Int.ofNat_eq_natCast, Int.cast_ofNat_Int, Int.reduceLT, Int.reduceLE, decide_true]
  have htk : ∀ i : Int, 0 ≤ i → i < t.comms.l.length → t.comms.l.take (i + 1).toNat = t.comms.l.take i.toNat ++ [t.comms.at i] := fun i h0 h1 => by
    rw [show (i + 1).toNat = i.toNat + 1 by omega, List.take_add_one]
    simp [Sl.at, List.getElem?_eq_getElem (show i.toNat < t.comms.l.length by omega)]
  refine blk_cut (fun u => u.n = 8 ∧ u.tm.get 4 = some (.c (.ptr 0 0)) ∧ u.tm.get 9 = some (.c (.ptr 2 0)) ∧ u.tm.get 10 = some (.c (.ptr 3 0)) ∧ u.tm.get 12 = some (V.bool M2) ∧ u.tm.get 13 = some (.c (.ptr 6 0)) ∧ u.tm.get 14 = some (.c (.ptr 7 0)) ∧ u.st.get 0 = some (.box [.t (.v (U32 rr.pa)), .t (.v (.int .i64 rr.pl)), .t (.v (.int .i64 rr.lo)), .t (.v (.int .i64 rr.hi)), .t (.v (U32 rr.comm)), .t (.v (.bool rr.rej)), .t (.v (.bool rr.sp)), .t (.v (U32 rr.pr)), .t (.v (.bool rr.sm)), .t (.v (U32 rr.md)), .t (.v (.int .i64 rr.pre)), .t (.v (U32 rr.ac))]) ∧ u.st.get 2 = some (.box [.t (.v (U32 pn)), .t (.v (.int .i64 pl))]) ∧ u.st.get 3 = some (.box [.t (.v (.int .i64 t.origin)), .t (t.path.t segC), .t (.v (U32 t.next)), .t (.v (.bool t.hasMed)), .t (.v (U32 t.med)), .t (.v (.bool t.hasPref)), .t (.v (U32 t.pref)), .t (.v (.bool t.atomic)), .t (t.comms.t u32c)]) ∧ u.st.get 6 = some (.box [.t (.v (U32 rr.pa)), .t (.v (.int .i64 rr.pl)), .t (.v (.int .i64 rr.lo)), .t (.v (.int .i64 rr.hi)), .t (.v (U32 0)), .t (.v (.bool rr.rej)), .t (.v (.bool rr.sp)), .t (.v (U32 rr.pr)), .t (.v (.bool rr.sm)), .t (.v (U32 rr.md)), .t (.v (.int .i64 rr.pre)), .t (.v (U32 rr.ac))]) ∧ u.st.get 7 = some (.box [.t (.v (U32 rr.pa)), .t (.v (.int .i64 rr.pl)), .t (.v (.int .i64 0)), .t (.v (.int .i64 32)), .t (.v (U32 0)), .t (.v (.bool rr.rej)), .t (.v (.bool rr.sp)), .t (.v (U32 rr.pr)), .t (.v (.bool rr.sm)), .t (.v (U32 rr.md)), .t (.v (.int .i64 rr.pre)), .t (.v (U32 rr.ac))]) ∧ u.tm.get 15 = some (V.bool (decide (rr.comm = 0 ∨ rr.comm ∈ t.comms.l)))) ?_ ?_
  · refine loop_N (fun u k => ∃ i : Int, i + k = t.comms.l.length ∧ 0 ≤ i ∧ u.tm.get 16 = some (.int .i64 i) ∧ u.n = 8 ∧ u.tm.get 4 = some (.c (.ptr 0 0)) ∧ u.tm.get 9 = some (.c (.ptr 2 0)) ∧ u.tm.get 10 = some (.c (.ptr 3 0)) ∧ u.tm.get 12 = some (V.bool M2) ∧ u.tm.get 13 = some (.c (.ptr 6 0)) ∧ u.tm.get 14 = some (.c (.ptr 7 0)) ∧ u.st.get 0 = some (.box [.t (.v (U32 rr.pa)), .t (.v (.int .i64 rr.pl)), .t (.v (.int .i64 rr.lo)), .t (.v (.int .i64 rr.hi)), .t (.v (U32 rr.comm)), .t (.v (.bool rr.rej)), .t (.v (.bool rr.sp)), .t (.v (U32 rr.pr)), .t (.v (.bool rr.sm)), .t (.v (U32 rr.md)), .t (.v (.int .i64 rr.pre)), .t (.v (U32 rr.ac))]) ∧ u.st.get 2 = some (.box [.t (.v (U32 pn)), .t (.v (.int .i64 pl))]) ∧ u.st.get 3 = some (.box [.t (.v (.int .i64 t.origin)), .t (t.path.t segC), .t (.v (U32 t.next)), .t (.v (.bool t.hasMed)), .t (.v (U32 t.med)), .t (.v (.bool t.hasPref)), .t (.v (U32 t.pref)), .t (.v (.bool t.atomic)), .t (t.comms.t u32c)]) ∧ u.st.get 6 = some (.box [.t (.v (U32 rr.pa)), .t (.v (.int .i64 rr.pl)), .t (.v (.int .i64 rr.lo)), .t (.v (.int .i64 rr.hi)), .t (.v (U32 0)), .t (.v (.bool rr.rej)), .t (.v (.bool rr.sp)), .t (.v (U32 rr.pr)), .t (.v (.bool rr.sm)), .t (.v (U32 rr.md)), .t (.v (.int .i64 rr.pre)), .t (.v (U32 rr.ac))]) ∧ u.st.get 7 = some (.box [.t (.v (U32 rr.pa)), .t (.v (.int .i64 rr.pl)), .t (.v (.int .i64 0)), .t (.v (.int .i64 32)), .t (.v (U32 0)), .t (.v (.bool rr.rej)), .t (.v (.bool rr.sp)), .t (.v (U32 rr.pr)), .t (.v (.bool rr.sm)), .t (.v (U32 rr.md)), .t (.v (.int .i64 rr.pre)), .t (.v (U32 rr.ac))]) ∧ u.tm.get 15 = some (V.bool (decide (rr.comm = 0 ∨ rr.comm ∈ t.comms.l.take i.toNat)))) ?_ t.comms.l.length _ _ ?_ ?_
    rotate_left 1
    · show t.comms.l.length < 1125899906842624
      omega
    · refine ⟨0, by omega, by omega, ?_, rfl, ?_, ?_, ?_, ?_, ?_, ?_, ?_, ?_, ?_, ?_, ?_, ?_⟩
      all_goals first | (simp (disch := first | assumption | omega | (simp only [go_sem]; done) | (simp only [go_sem, List.length_append, List.length_take, List.length_drop]; omega) | decide) only [go_sem, ↓reduceIte, ↓Nat.reduceEqDiff, ↓Nat.reduceAdd, ↓Nat.reduceLeDiff, ↓Nat.reduceLT, ↓Nat.reduceMul, ↓Nat.reduceSub, ↓Nat.reduceBNe, ↓Nat.reduceBEq, reduceCtorEq, Nat.le_refl, decide_eq_true_eq, Bool.not_eq_true, decide_eq_false_iff_not, decide_not, i64_id]; done) | (simp (disch := first | assumption | omega | (simp only [go_sem]; done) | (simp only [go_sem, List.length_append, List.length_take, List.length_drop]; omega) | decide) only [go_sem, ↓reduceIte, ↓Nat.reduceEqDiff, ↓Nat.reduceAdd, ↓Nat.reduceLeDiff, ↓Nat.reduceLT, ↓Nat.reduceMul, ↓Nat.reduceSub, ↓Nat.reduceBNe, ↓Nat.reduceBEq, reduceCtorEq, Nat.le_refl, decide_eq_true_eq, Bool.not_eq_true, decide_eq_false_iff_not, decide_not, i64_id]; rfl) | skip
      simp (disch := first | assumption | omega | (simp only [go_sem]; done) | (simp only [go_sem, List.length_append, List.length_take, List.length_drop]; omega) | decide) only [go_sem, ↓reduceIte, ↓Nat.reduceEqDiff, ↓Nat.reduceAdd, ↓Nat.reduceLeDiff, ↓Nat.reduceLT, ↓Nat.reduceMul, ↓Nat.reduceSub, ↓Nat.reduceBNe, ↓Nat.reduceBEq, reduceCtorEq, Nat.le_refl, decide_eq_true_eq, Bool.not_eq_true, decide_eq_false_iff_not, decide_not, i64_id, Int.toNat_zero]
      simp
    · rintro k ⟨tm, st, nn⟩ q ⟨i, hk, hi, g16, hn, g4, g9, g10, g12, g13, g14, b0, b2, b3, b6, b7, g15⟩ ih
      dsimp only at g16 hn g4 g9 g10 g12 g13 g14 b0 b2 b3 b6 b7 g15
      subst hn
      simp (disch := first | assumption | omega | (simp only [go_sem]; done) | (simp only [go_sem, List.length_append, List.length_take, List.length_drop]; omega) | decide) only [go_sem, ↓reduceIte, ↓Nat.reduceEqDiff, ↓Nat.reduceAdd, ↓Nat.reduceLeDiff, ↓Nat.reduceLT, ↓Nat.reduceMul, ↓Nat.reduceSub, ↓Nat.reduceBNe, ↓Nat.reduceBEq, reduceCtorEq, Nat.le_refl, decide_eq_true_eq, Bool.not_eq_true, decide_eq_false_iff_not, decide_not, i64_id, g4, g9, g10, g12, g13, g14, b0, b2, b3, b6, b7, g15, g16]
      rw [goB_dec]
      split
      · rename_i hlt
        simp (disch := first | assumption | omega | (simp only [go_sem]; done) | (simp only [go_sem, List.length_append, List.length_take, List.length_drop]; omega) | decide) only [go_sem, ↓reduceIte, ↓Nat.reduceEqDiff, ↓Nat.reduceAdd, ↓Nat.reduceLeDiff, ↓Nat.reduceLT, ↓Nat.reduceMul, ↓Nat.reduceSub, ↓Nat.reduceBNe, ↓Nat.reduceBEq, reduceCtorEq, Nat.le_refl, decide_eq_true_eq, Bool.not_eq_true, decide_eq_false_iff_not, decide_not, i64_id, g4, g9, g10, g12, g13, g14, b0, b2, b3, b6, b7, g15, g16]
        rw [goGD_dec]
        split
        · rename_i hin
          have hd := decide_eq_true hin
          simp (disch := first | assumption | omega | (simp only [go_sem]; done) | (simp only [go_sem, List.length_append, List.length_take, List.length_drop]; omega) | decide) only [go_sem, ↓reduceIte, ↓Nat.reduceEqDiff, ↓Nat.reduceAdd, ↓Nat.reduceLeDiff, ↓Nat.reduceLT, ↓Nat.reduceMul, ↓Nat.reduceSub, ↓Nat.reduceBNe, ↓Nat.reduceBEq, reduceCtorEq, Nat.le_refl, decide_eq_true_eq, Bool.not_eq_true, decide_eq_false_iff_not, decide_not, i64_id, g4, g9, g10, g12, g13, g14, b0, b2, b3, b6, b7, g15, g16, hd]
          refine ih (k - 1) _ (by omega) ⟨i + 1, by omega, by omega, ?_, ?_, ?_, ?_, ?_, ?_, ?_, ?_, ?_, ?_, ?_, ?_, ?_, ?_⟩
          all_goals first | (simp (disch := first | assumption | omega | (simp only [go_sem]; done) | (simp only [go_sem, List.length_append, List.length_take, List.length_drop]; omega) | decide) only [go_sem, ↓reduceIte, ↓Nat.reduceEqDiff, ↓Nat.reduceAdd, ↓Nat.reduceLeDiff, ↓Nat.reduceLT, ↓Nat.reduceMul, ↓Nat.reduceSub, ↓Nat.reduceBNe, ↓Nat.reduceBEq, reduceCtorEq, Nat.le_refl, decide_eq_true_eq, Bool.not_eq_true, decide_eq_false_iff_not, decide_not, i64_id, g4, g9, g10, g12, g13, g14, b0, b2, b3, b6, b7]; done) | (with_reducible rfl) | skip
          simp (disch := first | assumption | omega | (simp only [go_sem]; done) | (simp only [go_sem, List.length_append, List.length_take, List.length_drop]; omega) | decide) only [go_sem, ↓reduceIte, ↓Nat.reduceEqDiff, ↓Nat.reduceAdd, ↓Nat.reduceLeDiff, ↓Nat.reduceLT, ↓Nat.reduceMul, ↓Nat.reduceSub, ↓Nat.reduceBNe, ↓Nat.reduceBEq, reduceCtorEq, Nat.le_refl, decide_eq_true_eq, Bool.not_eq_true, decide_eq_false_iff_not, decide_not, i64_id]
          rw [htk i hi hlt]
          rcases hin with h | h <;> simp [h]
        · rename_i hin
          have hd := decide_eq_false hin
          simp (disch := first | assumption | omega | (simp only [go_sem]; done) | (simp only [go_sem, List.length_append, List.length_take, List.length_drop]; omega) | decide) only [go_sem, ↓reduceIte, ↓Nat.reduceEqDiff, ↓Nat.reduceAdd, ↓Nat.reduceLeDiff, ↓Nat.reduceLT, ↓Nat.reduceMul, ↓Nat.reduceSub, ↓Nat.reduceBNe, ↓Nat.reduceBEq, reduceCtorEq, Nat.le_refl, decide_eq_true_eq, Bool.not_eq_true, decide_eq_false_iff_not, decide_not, i64_id, g4, g9, g10, g12, g13, g14, b0, b2, b3, b6, b7, g15, g16, hlt, hi, u32c, hd]
          refine ih (k - 1) _ (by omega) ⟨i + 1, by omega, by omega, ?_, ?_, ?_, ?_, ?_, ?_, ?_, ?_, ?_, ?_, ?_, ?_, ?_, ?_⟩
          all_goals first | (simp (disch := first | assumption | omega | (simp only [go_sem]; done) | (simp only [go_sem, List.length_append, List.length_take, List.length_drop]; omega) | decide) only [go_sem, ↓reduceIte, ↓Nat.reduceEqDiff, ↓Nat.reduceAdd, ↓Nat.reduceLeDiff, ↓Nat.reduceLT, ↓Nat.reduceMul, ↓Nat.reduceSub, ↓Nat.reduceBNe, ↓Nat.reduceBEq, reduceCtorEq, Nat.le_refl, decide_eq_true_eq, Bool.not_eq_true, decide_eq_false_iff_not, decide_not, i64_id, g4, g9, g10, g12, g13, g14, b0, b2, b3, b6, b7]; done) | (with_reducible rfl) | skip
          simp (disch := first | assumption | omega | (simp only [go_sem]; done) | (simp only [go_sem, List.length_append, List.length_take, List.length_drop]; omega) | decide) only [go_sem, ↓reduceIte, ↓Nat.reduceEqDiff, ↓Nat.reduceAdd, ↓Nat.reduceLeDiff, ↓Nat.reduceLT, ↓Nat.reduceMul, ↓Nat.reduceSub, ↓Nat.reduceBNe, ↓Nat.reduceBEq, reduceCtorEq, Nat.le_refl, decide_eq_true_eq, Bool.not_eq_true, decide_eq_false_iff_not, decide_not, i64_id]
          rw [htk i hi hlt]
          have hin' := not_or.1 hin
          refine congrArg (fun b => some (V.bool b)) ?_
          rw [decide_eq_decide]
          simp only [List.mem_append, List.mem_singleton, hin'.1, hin'.2, false_or]
          exact ⟨Eq.symm, Eq.symm⟩
      · rename_i hlt
        simp (disch := first | assumption | omega | (simp only [go_sem]; done) | (simp only [go_sem, List.length_append, List.length_take, List.length_drop]; omega) | decide) only [go_sem, ↓reduceIte, ↓Nat.reduceEqDiff, ↓Nat.reduceAdd, ↓Nat.reduceLeDiff, ↓Nat.reduceLT, ↓Nat.reduceMul, ↓Nat.reduceSub, ↓Nat.reduceBNe, ↓Nat.reduceBEq, reduceCtorEq, Nat.le_refl, decide_eq_true_eq, Bool.not_eq_true, decide_eq_false_iff_not, decide_not, i64_id, g4, g9, g10, g12, g13, g14, b0, b2, b3, b6, b7, g15, g16]
        rw [List.take_of_length_le (by omega)]
  rintro ⟨tm, st, nn⟩ ⟨hn, g4, g9, g10, g12, g13, g14, b0, b2, b3, b6, b7, g15⟩
  dsimp only at hn g4 g9 g10 g12 g13 g14 b0 b2 b3 b6 b7 g15
  subst hn
  obtain ⟨cp, hcp⟩ : ∃ cp, cp = canonP t (nilOr (canL t.comms.l)) := ⟨_, rfl⟩
  obtain ⟨cr, hcr⟩ : ∃ cr, cr = canonR t := ⟨_, rfl⟩
  have h17 := c17_nil 30 7 pn pl t htw (by omega)
  have h20 := c20 37 t htw hcl6
  have h19 : evF env 39 true 19 [attrsV cp, attrsV cr] = some (V.bool true, []) := by
    rw [hcp, hcr]
    refine c19 37 _ _ (canon_eq t) (wide_nilOr htw rfl) ?_
    show (nilOr (canL t.comms.l)).l.length ≤ 1000000
    have := canL_len t.comms.l
    rw [nilOr_l]; omega
  rw [← hcp] at h17
  rw [← hcr] at h20
  have h21 := c21' 19
  dsimp only [V.cells] at h17
  clear hcp hcr hc14 h16 h24 h14 h14' hall ht hpn hpl hrr htk
  subst hM23
  by_cases hA : rr.lo ≤ pl
  all_goals by_cases hB : pl ≤ rr.hi
  all_goals cases M4
  all_goals
    simp only [hA, hB, decide_true, decide_false, Bool.and_true, Bool.and_false, Bool.and_self] at hM34
    subst hM34
    simp (disch := first | assumption | omega | (simp only [go_sem]; done) | (simp only [go_sem, List.length_append, List.length_take, List.length_drop]; omega) | decide) only [go_sem, ↓reduceIte, ↓Nat.reduceEqDiff, ↓Nat.reduceAdd, ↓Nat.reduceLeDiff, ↓Nat.reduceLT, ↓Nat.reduceMul, ↓Nat.reduceSub, ↓Nat.reduceBNe, ↓Nat.reduceBEq, reduceCtorEq, Nat.le_refl, decide_eq_true_eq, Bool.not_eq_true, decide_eq_false_iff_not, decide_not, i64_id, g4, g9, g10, g12, g13, g14, b0, b2, b3, b6, b7, g15, m3, m4, hA, hB, beq_self_eq_true, Bool.true_and, Bool.false_and, h17, h19, h20, h21]
end Go.Proofs.Ytcijgahloogooaa
