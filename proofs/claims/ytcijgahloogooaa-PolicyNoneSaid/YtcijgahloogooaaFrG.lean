/- The frame, part G: the operations on variables, structs, slices. -/
import Derived.Test.YtcijgahloogooaaFrF
namespace Go.Proofs.Sg
open Go.RowKit

section
variable {P : Program} {tt : TT} {B : Fr} {w0 w : World} {M : Mem} {β : Bet} {st : Tr Blk} {n n' : Nat} {v : V} {u : List (Nat × Blk)} {o : Oper} {a : Act} {rd : Opd → V}

theorem op_mov (hI : Inv B w0 M β st n w) (hrd : RD M β a rd) {x : Operand} {y : Opd} (ho : o.op = .move x ∨ o.op = .assign x) (hx : slimO x = some y) : OpStep P B w0 M β st n (rd y) o a w := by
  refine OpStep.pure (val := a.eval x) ?_ hI (hrd x y hx)
  rcases ho with ho | ho <;> simp [execOp, ho]

theorem op_pick (hI : Inv B w0 M β st n w) (hrd : RD M β a rd) {c x y : Operand} {c' x' y' : Opd} {t : Bool} (ho : o.op = .pick c x y) (hc : slimO c = some c') (hx : slimO x = some x') (hy : slimO y = some y')
    (ht : rd c' = V.bool t) : OpStep P B w0 M β st n (if t then rd x' else rd y') o a w := by
  have h1 := hrd c c' hc
  rw [ht] at h1
  obtain ⟨h1, _⟩ := rv_v h1
  cases t with
  | true =>
    refine OpStep.pure (val := a.eval x) ?_ hI (hrd x x' hx)
    simp [execOp, ho, h1, asBool]
  | false =>
    refine OpStep.pure (val := a.eval y) ?_ hI (hrd y y' hy)
    simp [execOp, ho, h1, asBool]

theorem rv_ptr {p : Nat × Nat} {id : Nat} (h : β id = some p) (off : Nat) : RV M β (.pointer (some ⟨p.1, off, none⟩)) (.c (.ptr id off)) := ⟨p, h, rfl⟩

theorem op_alloc (htt : TTok P tt) (hI : Inv B w0 M β st n w) (hn : ¬ B.hi n) {t : TypeId} {d : TD} {z : List Value} (ho : o.op = .alloc t) (ht : tt t = some d) (hz : d.zero = some z) :
    OpStep P B w0 M β (st.set n (.box (z.map C.p))) (n + 1) (.c (.ptr n 0)) o a w := by
  obtain ⟨zv, hzv, hcz⟩ := (htt t d ht).run_zero (w := w) hz
  have hb : HB M (β.ext n (w.heap.size, 0)) (w.alloc (.cells z.toArray t)) (w.heap.size, 0) (.box (z.map C.p)) :=
    ⟨z, t, heap_alloc_new w _, plain_C ((htt t d ht).zero_plain hz).1⟩
  refine OpStep.value (val := .pointer (some ⟨w.heap.size, 0, none⟩)) ?_ (hI.new hn hb) ⟨(w.heap.size, 0), Bet.ext_at _ _ _, rfl⟩ (Mle.refl _) (hI.ble hn _)
  simp only [execOp, ho]
  refine run_v _ ?_
  unfold Instr.alloc
  simp [hzv, newVar, hcz, run_newRow]

theorem op_box (hI : Inv B w0 M β st n w) (hn : ¬ B.hi n) (hrd : RD M β a rd) {t : TypeId} {x : Operand} {y : Opd} {cs : List C} (ho : o.op = .box t x) (hx : slimO x = some y) (hc : (rd y).mem = some cs) :
    OpStep P B w0 M β (st.set n (.box cs)) (n + 1) (.c (.ptr n 0)) o a w := by
  obtain ⟨vs, h1, h2, h3⟩ := mem_ok (hrd x y hx) hc
  have hb : HB M (β.ext n (w.heap.size, 0)) (w.alloc (.cells vs.toArray t)) (w.heap.size, 0) (.box cs) :=
    ⟨vs, t, heap_alloc_new w _, h2.mono fun _ _ => RC.mono (Mle.refl _) (hI.ble hn _)⟩
  refine OpStep.value (val := .pointer (some ⟨w.heap.size, 0, none⟩)) ?_ (hI.new hn hb) ⟨(w.heap.size, 0), Bet.ext_at _ _ _, rfl⟩ (Mle.refl _) (hI.ble hn _)
  simp only [execOp, ho]
  refine run_v _ ?_
  unfold Instr.box
  simp [newVar, h1, run_newRow]

theorem set_take (l : List Value) (i : Nat) (x : Value) (h : i < l.length) : (l.set i x).take (i + 1) = l.take i ++ [x] := by
  rw [List.set_eq_take_append_cons_drop, if_pos h, List.take_append]
  simp [Nat.min_eq_left (Nat.le_of_lt h), List.take_take]
theorem set_drop (l : List Value) (i m : Nat) (x : Value) (h : i < m) : (l.set i x).drop m = l.drop m := by
  rw [List.drop_set, if_pos h]

/-- Parts are filled in. -/
theorem fold_set (vs : List Value) : ∀ (k : Nat) (off : Nat) (cs : Array Value), off + k + vs.length ≤ cs.size →
    ((vs.toArray.zipIdx k).foldl (fun cs (c, j) => cs.setIfInBounds (off + j) c) cs) = (cs.toList.take (off + k) ++ vs ++ cs.toList.drop (off + k + vs.length)).toArray := by
  induction vs with
  | nil => intro k off cs _; simp [Array.zipIdx]
  | cons x vs ih =>
    intro k off cs h
    have hz : (x :: vs).toArray.zipIdx k = #[(x, k)] ++ vs.toArray.zipIdx (k + 1) := by
      simp [List.zipIdx_cons]
    rw [hz, Array.foldl_append]
    simp only [List.foldl_toArray, List.foldl_cons, List.foldl_nil]
    have := ih (k + 1) off (cs.setIfInBounds (off + k) x) (by simp at h ⊢; omega)
    rw [this]
    simp only [List.length_cons] at h ⊢
    rw [Array.toList_setIfInBounds, show off + (k + 1) = off + k + 1 by omega, set_take _ _ _ (by simp; omega), set_drop _ _ _ _ (by omega)]
    simp [show off + k + 1 + vs.length = off + k + (vs.length + 1) by omega]

theorem fillC_ok (place : Nat → Option (Nat × Nat)) : ∀ (ps : List (Nat × Nat × V)) (qs : List (Nat × Value)) (cs cs' : List C) (vs : List Value), fillC cs ps = some cs' → All2 (RC M β) vs cs →
    All2 (fun (q : Nat × Value) (p : Nat × Nat × V) => place q.1 = some (p.1, p.2.1) ∧ RV M β q.2 p.2.2) qs ps → ∃ vs', Instr.fill place vs.toArray qs = some vs'.toArray ∧ All2 (RC M β) vs' cs' := by
  intro ps
  induction ps with
  | nil =>
    intro qs cs cs' vs h hv hq
    match qs, hq with
    | [], _ =>
      obtain rfl : cs = cs' := by simpa [fillC] using h
      exact ⟨vs, rfl, hv⟩
  | cons p ps ih =>
    intro qs cs cs' vs h hv hq
    obtain ⟨off, m, x⟩ := p
    match qs, hq with
    | q :: qs, hq =>
      simp only [fillC] at h
      cases hx : x.mem with
      | none => simp [hx] at h
      | some xs =>
        simp only [hx] at h
        split at h
        · rename_i hc
          simp only [Bool.and_eq_true, decide_eq_true_eq] at hc
          obtain ⟨us, h1, h2, h3⟩ := mem_ok hq.1.2 hx
          have hl := hv.length
          have hul := h2.length
          have hfit : off + us.length ≤ vs.length := by omega
          have hv' : All2 (RC M β) (vs.take off ++ us ++ vs.drop (off + m)) (cs.take off ++ xs ++ cs.drop (off + m)) := ((hv.take off).append h2).append (hv.drop (off + m))
          obtain ⟨vs', h4, h5⟩ := ih qs _ cs' _ h hv' hq.2
          refine ⟨vs', ?_, h5⟩
          unfold Instr.fill
          rw [hq.1.1]
          dsimp only
          rw [h1]
          rw [if_neg (by simp; omega)]
          have := fold_set us 0 off vs.toArray (by simp; omega)
          rw [this]
          simpa [show off + us.length = off + m by omega] using h4
        · cases h
end
end Go.Proofs.Sg
