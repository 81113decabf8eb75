/- What Canon answers, of few numbers. -/
import Derived.Test.YtcijgahloogooaaC7
namespace Go.Proofs.Ytcijgahloogooaa
open Go Go.Proofs.Sg
set_option maxRecDepth 10000
set_option maxHeartbeats 8000000
set_option linter.unusedSimpArgs false
set_option linter.unusedVariables false
variable (m : Nat)

theorem c82 (s : Sl (BitVec 32)) : evF env (m + 1) true 82 [.c (.t (s.t u32c))] = some (.c (.t (.fn 123 [s.t u32c])), []) := by
  rw [evF_go rfl fn82 rfl]
  simp (disch := first | assumption | omega | (simp only [go_sem]; done) | (simp only [go_sem, List.length_append, List.length_take, List.length_drop]; omega) | decide) only [go_sem, ↓reduceIte, ↓Nat.reduceEqDiff, ↓Nat.reduceAdd, ↓Nat.reduceLeDiff, ↓Nat.reduceLT, ↓Nat.reduceMul, ↓Nat.reduceSub, ↓Nat.reduceBNe, ↓Nat.reduceBEq, reduceCtorEq, Nat.le_refl, decide_eq_true_eq, Bool.not_eq_true, decide_eq_false_iff_not, decide_not, i64_id, y82]

theorem c101 (n : Nat) (h : n ≤ 12) : ∃ k, evF env (m + 2) true 101 [V.p (U64 (BitVec.ofNat 64 n))] = some (.int .i64 k, []) := by
  have hk : n = 0 ∨ n = 1 ∨ n = 2 ∨ n = 3 ∨ n = 4 ∨ n = 5 ∨ n = 6 ∨ n = 7 ∨ n = 8 ∨ n = 9 ∨ n = 10 ∨ n = 11 ∨ n = 12 := by omega
  clear h
  rcases hk with rfl | rfl | rfl | rfl | rfl | rfl | rfl | rfl | rfl | rfl | rfl | rfl | rfl
  · exact ⟨0, by kernel_rfl⟩
  · exact ⟨1, by kernel_rfl⟩
  · exact ⟨2, by kernel_rfl⟩
  · exact ⟨2, by kernel_rfl⟩
  · exact ⟨3, by kernel_rfl⟩
  · exact ⟨3, by kernel_rfl⟩
  · exact ⟨3, by kernel_rfl⟩
  · exact ⟨3, by kernel_rfl⟩
  · exact ⟨4, by kernel_rfl⟩
  · exact ⟨4, by kernel_rfl⟩
  · exact ⟨4, by kernel_rfl⟩
  · exact ⟨4, by kernel_rfl⟩
  · exact ⟨4, by kernel_rfl⟩

theorem c152 (l : List (BitVec 32)) (id nn : Nat) (st : Tr Blk) (k : Int) (hl : l.length ≤ 12) (hst : st.get id = some (.arr 1 (l.flatMap u32c))) (hid : id < nn) :
    SortQ id nn st l 0 l.length (evR env (m + 4) 152 [.c (.own id 1 0 l.length), .int .i64 0, .int .i64 l.length, .int .i64 k] st nn) := by
  obtain ⟨st', l', e, h1, h2, h3, h4, h5⟩ := c161 m l id nn st 0 l.length (by omega) (by omega) (by omega) hst hid
  have e' : evR env (m + 3) 161 [.c (.own id 1 0 l.length), .int .i64 0, .int .i64 l.length] st nn = some (.tup [], st', nn) := e
  refine ⟨st', l', ?_, h1, h2, h3, h4, h5⟩
  have hle : (l.length : Int) ≤ 12 := by omega
  rw [evR_go fn152 rfl]
  simp (disch := first | assumption | omega | (simp only [go_sem]; done) | (simp only [go_sem, List.length_append, List.length_take, List.length_drop]; omega) | decide) only [go_sem, ↓reduceIte, ↓Nat.reduceEqDiff, ↓Nat.reduceAdd, ↓Nat.reduceLeDiff, ↓Nat.reduceLT, ↓Nat.reduceMul, ↓Nat.reduceSub, ↓Nat.reduceBNe, ↓Nat.reduceBEq, reduceCtorEq, Nat.le_refl, decide_eq_true_eq, Bool.not_eq_true, decide_eq_false_iff_not, decide_not, i64_id, y152, show env.L = 1125899906842624 from rfl, goI_succ, Int.sub_zero, hle, decide_true, e']

theorem c122 (l : List (BitVec 32)) (id nn : Nat) (st : Tr Blk) (hl : l.length ≤ 12) (hst : st.get id = some (.arr 1 (l.flatMap u32c))) (hid : id < nn) :
    SortQ id nn st l 0 l.length (evR env (m + 5) 122 [.c (.own id 1 0 l.length)] st nn) := by
  obtain ⟨k, hk⟩ := c101 (m + 2) l.length hl
  obtain ⟨st', l', e, h1, h2, h3, h4, h5⟩ := c152 m l id nn st k hl hst hid
  refine ⟨st', l', ?_, h1, h2, h3, h4, h5⟩
  rw [evR_go fn122 rfl]
  simp (disch := first | assumption | omega | (simp only [go_sem]; done) | (simp only [go_sem, List.length_append, List.length_take, List.length_drop]; omega) | decide) only [go_sem, ↓reduceIte, ↓Nat.reduceEqDiff, ↓Nat.reduceAdd, ↓Nat.reduceLeDiff, ↓Nat.reduceLT, ↓Nat.reduceMul, ↓Nat.reduceSub, ↓Nat.reduceBNe, ↓Nat.reduceBEq, reduceCtorEq, Nat.le_refl, decide_eq_true_eq, Bool.not_eq_true, decide_eq_false_iff_not, decide_not, i64_id, y122, hk, e, Int.toNat_natCast]

theorem c81 (l : List (BitVec 32)) (h : 0 < l.length) (hl : l.length ≤ 12) :
    ∃ l', evF env (m + 6) false 81 [.c (.t (.fn 123 [(Sl.mk l).t u32c]))] = some (.c (.own 0 1 0 l.length), [.arr 1 (l'.flatMap u32c)]) ∧ l'.Perm l ∧ Srt l' 0 l.length := by
  have hp : pAppendSeq [V.p (.slice none 0 0), .c (.t (.fn 123 [(Sl.mk l).t u32c]))] = some (.c (.own 0 1 0 l.length), [.arr 1 (l.flatMap u32c)]) := by
    have hz : ∀ l : List (BitVec 32), u32sOf (l.flatMap u32c) = some (l.map fun x => (x.toNat : Int)) := by
      intro l
      induction l with
      | nil => rfl
      | cons x l ih =>
        show (u32sOf (l.flatMap u32c)).map _ = _
        rw [ih]; rfl
    simp only [pAppendSeq, Sl.t]
    rw [List.take_of_length_le (by rw [len_u32]; exact Nat.le_refl _), hz]
    simp only [List.length_map]
    rw [if_pos (by simp [room]; omega), if_neg (by omega)]
  have h151 : evF env (m + 4) false 151 [V.p (.slice none 0 0), .c (.t (.fn 123 [(Sl.mk l).t u32c]))] = some (.c (.own 0 1 0 l.length), [.arr 1 (l.flatMap u32c)]) := by
    rw [← hp]; rfl
  have h121 : evF env (m + 5) false 121 [.c (.t (.fn 123 [(Sl.mk l).t u32c]))] = some (.c (.own 0 1 0 l.length), [.arr 1 (l.flatMap u32c)]) := by
    rw [evF_go rfl fn121 rfl]
    simp (disch := first | assumption | omega | (simp only [go_sem]; done) | (simp only [go_sem, List.length_append, List.length_take, List.length_drop]; omega) | decide) only [go_sem, ↓reduceIte, ↓Nat.reduceEqDiff, ↓Nat.reduceAdd, ↓Nat.reduceLeDiff, ↓Nat.reduceLT, ↓Nat.reduceMul, ↓Nat.reduceSub, ↓Nat.reduceBNe, ↓Nat.reduceBEq, reduceCtorEq, Nat.le_refl, decide_eq_true_eq, Bool.not_eq_true, decide_eq_false_iff_not, decide_not, i64_id, y121, h151]
    rw [finF_own (cs := l.flatMap u32c) (e' := 1) (by simp (disch := first | assumption | omega | (simp only [go_sem]; done) | (simp only [go_sem, List.length_append, List.length_take, List.length_drop]; omega) | decide) only [go_sem, ↓reduceIte, ↓Nat.reduceEqDiff, ↓Nat.reduceAdd, ↓Nat.reduceLeDiff, ↓Nat.reduceLT, ↓Nat.reduceMul, ↓Nat.reduceSub, ↓Nat.reduceBNe, ↓Nat.reduceBEq, reduceCtorEq, Nat.le_refl, decide_eq_true_eq, Bool.not_eq_true, decide_eq_false_iff_not, decide_not, i64_id])]
  have hst : (Tr.leaf.set 0 (Blk.arr 1 (l.flatMap u32c))).get 0 = some (.arr 1 (l.flatMap u32c)) := by simp (disch := first | assumption | omega | (simp only [go_sem]; done) | (simp only [go_sem, List.length_append, List.length_take, List.length_drop]; omega) | decide) only [go_sem, ↓reduceIte, ↓Nat.reduceEqDiff, ↓Nat.reduceAdd, ↓Nat.reduceLeDiff, ↓Nat.reduceLT, ↓Nat.reduceMul, ↓Nat.reduceSub, ↓Nat.reduceBNe, ↓Nat.reduceBEq, reduceCtorEq, Nat.le_refl, decide_eq_true_eq, Bool.not_eq_true, decide_eq_false_iff_not, decide_not, i64_id]
  obtain ⟨st', l', e, h1, h2, h3, h4, h5⟩ := c122 m l 0 1 _ hl hst (by omega)
  refine ⟨l', ?_, h3, h5⟩
  rw [evF_go rfl fn81 rfl]
  simp (disch := first | assumption | omega | (simp only [go_sem]; done) | (simp only [go_sem, List.length_append, List.length_take, List.length_drop]; omega) | decide) only [go_sem, ↓reduceIte, ↓Nat.reduceEqDiff, ↓Nat.reduceAdd, ↓Nat.reduceLeDiff, ↓Nat.reduceLT, ↓Nat.reduceMul, ↓Nat.reduceSub, ↓Nat.reduceBNe, ↓Nat.reduceBEq, reduceCtorEq, Nat.le_refl, decide_eq_true_eq, Bool.not_eq_true, decide_eq_false_iff_not, decide_not, i64_id, y81, h121, e]
  rw [finF_own (cs := l'.flatMap u32c) (e' := 1) h1]
theorem c81_nil : evF env (m + 6) false 81 [.c (.t (.fn 123 [(Sl.nil : Sl (BitVec 32)).t u32c]))] = some (V.p (.slice none 0 0), []) := by kernel_rfl
theorem c81_zero : evF env (m + 6) false 81 [.c (.t (.fn 123 [(Sl.mk [] : Sl (BitVec 32)).t u32c]))] = some (V.p (.slice none 0 0), []) := by kernel_rfl

/-- Numbers, each once where it stands often in a row. -/
def ddS (acc : List (BitVec 32)) (x : BitVec 32) : List (BitVec 32) := if acc.getLast? = some x then acc else acc ++ [x]
def dd (l : List (BitVec 32)) : List (BitVec 32) := l.foldl ddS []
theorem dd_snoc (l : List (BitVec 32)) (x : BitVec 32) : dd (l ++ [x]) = ddS (dd l) x := by simp [dd, List.foldl_append]
theorem dd_last (l : List (BitVec 32)) (x : BitVec 32) : (dd (l ++ [x])).getLast? = some x := by
  rw [dd_snoc, ddS]
  split
  · assumption
  · simp
theorem dd_len : ∀ l : List (BitVec 32), (dd l).length ≤ l.length := by
  intro l
  have : ∀ (l acc : List (BitVec 32)), (l.foldl ddS acc).length ≤ acc.length + l.length := by
    intro l
    induction l with
    | nil => intro acc; simp
    | cons x l ih =>
      intro acc
      have h1 := ih (ddS acc x)
      have h2 : (ddS acc x).length ≤ acc.length + 1 := by unfold ddS; split <;> simp
      simp only [List.foldl_cons, List.length_cons]
      omega
  simpa [dd] using this l []

/-- A call that drops what stands twice, in place. -/
def CompQ (id nn : Nat) (st : Tr Blk) (l : List (BitVec 32)) (r : Option (V × Tr Blk × Nat)) : Prop :=
  ∃ (st' : Tr Blk) (l' : List (BitVec 32)), r = some (.c (.own id 1 0 (dd l).length), st', nn) ∧ st'.get id = some (.arr 1 (l'.flatMap u32c)) ∧ (∀ j, j ≠ id → st'.get j = st.get j) ∧ l'.take (dd l).length = dd l ∧ (dd l).length ≤ l'.length
theorem take_snoc {l : List (BitVec 32)} {r : Nat} (h : r < l.length) : l.take (r + 1) = l.take r ++ [l.getD r 0] := by
  rw [List.take_add_one, List.getElem?_eq_getElem h, getD_lt h]; rfl
def vClear (lk : Look) (k e : Nat) (z : List Value) (x : V) : Out := match x with
  | .c (.own id e' off len) => match lk id with
    | some (.arr e'' cs) => if e = e' && e = e'' && decide (off + len * e ≤ cs.length) then
        some (.c .any, [(id, .arr e (cs.take off ++ (List.replicate len (z.map T.v)).flatten ++ cs.drop (off + len * e)))], k) else none
    | _ => none
  | _ => none
theorem evI_clear {lk : Look} {k e : Nat} {z : List Value} {rd : Opd → V} {x : Opd} : evIns lk k rd (.clear e z x) = vClear lk k e z (rd x) := rfl
theorem rep_u32 : ∀ len : Nat, (List.replicate len [T.v (U32 0)]).flatten = (List.replicate len (0 : BitVec 32)).flatMap u32c
  | 0 => rfl
  | n + 1 => by rw [List.replicate_succ, List.replicate_succ, List.flatten_cons, List.flatMap_cons, rep_u32 n]; rfl
theorem vClear_u32 {lk : Look} {k id off len : Nat} {cur : List (BitVec 32)} (h : lk id = some (.arr 1 (cur.flatMap u32c))) (hle : off + len = cur.length) : vClear lk k 1 [U32 0] (.c (.own id 1 off len)) = some (.c .any, [(id, .arr 1 ((cur.take off ++ List.replicate len 0).flatMap u32c))], k) := by
  have e1 := fx_u32.take off cur
  rw [Nat.mul_one] at e1
  unfold vClear
  dsimp only
  rw [h]
  dsimp only
  rw [if_pos (by rw [len_u32]; simp; omega), e1, List.drop_of_length_le (by rw [len_u32]; omega), List.append_nil, List.flatMap_append, ← rep_u32]
  rfl
end Go.Proofs.Ytcijgahloogooaa
