/- The frame, part O: calls. -/
import Derived.Test.YtcijgahloogooaaFrN
namespace Go.Proofs.Sg
open Go.RowKit

/-- A function that is called as every other. -/
def FnOk (P : Program) (f : FuncId) : Prop := ∃ fn, P.funcs[f]? = some fn ∧ (fn.name == "runtime.NumGoroutine") = false ∧ fn.body.isNone = false

def Agree (M : Mem) (w : World) : Prop := ∀ b mc, M b = some mc → ∃ (full : List Value) (ty : TypeId) (fr : Nat × Nat), w.heap[b]? = some (.cells full.toArray ty fr) ∧ mc <+: full
def fr0 (w : World) (M : Mem) : Fr := ⟨w.heap.size, fun _ => none, fun _ => False, 0, M⟩
def nob : Bet := fun _ => none
def stOf (nb : List Blk) : Tr Blk := putAll .leaf (news 0 nb)

/-- A call that is alone: over trees. -/
def Iso (P : Program) (f : FuncId) (ts : List V) (r : V) (nb : List Blk) : Prop :=
  FnOk P f ∧ ∀ (M : Mem) (w : World) (vals : List Value), Agree M w → All2 (RV M nob) vals ts → Calls P f vals.toArray w fun
    | .returned val, w' => ∃ M' β', Inv (fr0 w M) w M' β' (stOf nb) nb.length w' ∧ RV M' β' val r ∧ Mle M M'
    | _, _ => False

/-- A call in the caller's store. -/
def Shr (P : Program) (f : FuncId) (args : List V) (st : Tr Blk) (n : Nat) (v : V) (st' : Tr Blk) (n' : Nat) : Prop :=
  FnOk P f ∧ ∀ (B : Fr) (w0 : World) (M : Mem) (β : Bet) (w : World) (vals : List Value), (∀ i, ¬ B.hi i) → Inv B w0 M β st n w → All2 (RV M β) vals args → Calls P f vals.toArray w fun
    | .returned val, w' => ∃ M' β', Inv B w0 M' β' st' n' w' ∧ RV M' β' val v ∧ Mle M M' ∧ Ble β β'
    | _, _ => False

/-! ### Arguments as trees -/
section
variable {B : Fr} {w0 w : World} {β : Bet} {st : Tr Blk} {n : Nat}

theorem toVs_ok : ∀ {cs : List V} {vals : List Value} {ts : List V} {u : List (Nat × Blk)} {M : Mem} {st' : Tr Blk}, Fz st st' → Inv B w0 M β st' n w → All2 (RV M β) vals cs → toVs st.get cs = some (ts, u) →
    ∃ M', Mle M M' ∧ Inv B w0 M' β (putAll st' u) n w ∧ Fz st (putAll st' u) ∧ All2 (RV M' nob) vals ts
  | [], [], ts, u, M, st', hf, hI, _, h => by
    simp only [toVs, Option.some.injEq, Prod.mk.injEq] at h
    obtain ⟨rfl, rfl⟩ := h
    exact ⟨M, Mle.refl _, hI, hf, trivial⟩
  | [], _ :: _, _, _, _, _, _, _, hr, _ => hr.elim
  | _ :: _, [], _, _, _, _, _, _, hr, _ => hr.elim
  | c :: cs, v :: vals, ts, u, M, st', hf, hI, hr, h => by
    simp only [toVs] at h
    cases h1 : toV st.get c with
    | none => simp [h1] at h
    | some x =>
      obtain ⟨t, u1⟩ := x
      cases h2 : toVs st.get cs with
      | none => simp [h1, h2] at h
      | some y =>
        obtain ⟨ts', u2⟩ := y
        simp only [h1, h2, Option.some.injEq, Prod.mk.injEq] at h
        obtain ⟨rfl, rfl⟩ := h
        obtain ⟨M1, hM1, hI1, hf1, hr1⟩ : ∃ M', Mle M M' ∧ Inv B w0 M' β (putAll st' u1) n w ∧ Fz st (putAll st' u1) ∧ RV M' nob v t := by
          cases c with
          | c x =>
            simp only [toV] at h1
            cases h3 : toT st.get x with
            | none => simp [h3] at h1
            | some y =>
              obtain ⟨t', u'⟩ := y
              simp only [h3, Option.some.injEq, Prod.mk.injEq] at h1
              obtain ⟨rfl, rfl⟩ := h1
              obtain ⟨M', a1, a2, a3, a4⟩ := toT_ok hf hI hr.1 h3
              exact ⟨M', a1, a2, a3, a4⟩
          | agg xs =>
            simp only [toV] at h1
            cases h3 : toTs st.get xs with
            | none => simp [h3] at h1
            | some y =>
              obtain ⟨t', u'⟩ := y
              simp only [h3, Option.some.injEq, Prod.mk.injEq] at h1
              obtain ⟨rfl, rfl⟩ := h1
              obtain ⟨vs, e, hvs⟩ := hr.1
              obtain ⟨M', a1, a2, a3, a4⟩ := toTs_ok hf hI hvs h3
              exact ⟨M', a1, a2, a3, vs, e, RTs_C a4⟩
          | tup xs => simp [toV] at h1
        obtain ⟨M2, hM2, hI2, hf2, hr2⟩ := toVs_ok hf1 hI1 (hr.2.mono fun _ _ => RV.mono hM1 (Ble.refl _)) h2
        refine ⟨M2, hM1.trans hM2, by rw [putAll_append]; exact hI2, by rw [putAll_append]; exact hf2, RV.mono hM2 (Ble.refl _) hr1, hr2⟩
end

/-! ### A callee's blocks come to the caller's store -/
def Bet.join (β : Bet) (n : Nat) (β' : Bet) (l : Nat) : Bet := fun i => if n ≤ i ∧ i < n + l then β' (i - n) else β i

theorem get_news : ∀ (bs : List Blk) (st : Tr Blk) (k i : Nat), (putAll st (news k bs)).get i = if k ≤ i ∧ i < k + bs.length then bs[i - k]? else st.get i
  | [], st, k, i => by
    simp only [news, putAll, List.length_nil, Nat.add_zero]
    rw [if_neg (by omega)]
  | b :: bs, st, k, i => by
    simp only [news, putAll]
    rw [get_news bs (st.set k b) (k + 1) i, Tr.get_set]
    by_cases h : i = k
    · subst h
      rw [if_neg (by omega), if_pos rfl, if_pos (by simp)]
      simp
    · rw [if_neg h]
      by_cases h2 : k + 1 ≤ i ∧ i < k + 1 + bs.length
      · rw [if_pos h2, if_pos (by simp only [List.length_cons]; omega)]
        obtain ⟨j, hj⟩ : ∃ j, i - k = j + 1 := ⟨i - k - 1, by omega⟩
        rw [hj, show i - (k + 1) = j by omega]
        simp
      · rw [if_neg h2, if_neg (by simp only [List.length_cons]; omega)]

section
variable {M M' : Mem} {β β' : Bet} {n l : Nat}

theorem RC.shift {v : Value} {c : C} (hlo : ∀ i p, β' i = some p → i < l) (h : RC M β' v c) : RC M (β.join n β' l) v (c.shift n) := by
  have hj : ∀ i p, β' i = some p → (β.join n β' l) (n + i) = some p := fun i p h => by
    unfold Bet.join
    rw [if_pos (by have := hlo i p h; omega), show n + i - n = i by omega]
    exact h
  cases c with
  | t x => exact h
  | ptr id off => obtain ⟨p, h1, h2⟩ := h; exact ⟨p, hj _ _ h1, h2⟩
  | own id e off len => obtain ⟨p, cap, h1, h2⟩ := h; exact ⟨p, cap, hj _ _ h1, h2⟩
  | tp cs => exact h
  | clo f caps =>
    obtain ⟨ps, h1, h2⟩ := h
    refine ⟨ps, h1, ?_⟩
    refine All2.map_right (fun p : Nat × Nat => (n + p.1, p.2)) (h2.mono ?_)
    rintro v c ⟨p, a, b⟩
    exact ⟨p, hj _ _ a, b⟩
  | mp id => obtain ⟨p, h1, h2⟩ := h; exact ⟨p, hj _ _ h1, h2⟩
  | any => trivial

theorem RCs.shift {vs : List Value} {cs : List C} (hlo : ∀ i p, β' i = some p → i < l) (h : All2 (RC M β') vs cs) : All2 (RC M (β.join n β' l)) vs (cs.map (C.shift n)) :=
  All2.map_right _ (h.mono fun _ _ => RC.shift hlo)

theorem RV.shift {v : Value} {c : V} (hlo : ∀ i p, β' i = some p → i < l) (h : RV M β' v c) : RV M (β.join n β' l) v (c.shift n) := by
  cases c with
  | c x => exact RC.shift hlo h
  | agg cs => obtain ⟨vs, h1, h2⟩ := h; exact ⟨vs, h1, RCs.shift hlo h2⟩
  | tup xs =>
    obtain ⟨vs, h1, h2⟩ := h
    refine ⟨vs, h1, All2.map_right _ (h2.mono fun v x hx => ?_)⟩
    unfold RG at *
    simp only
    split
    · rename_i hb
      rw [if_pos hb] at hx
      obtain ⟨us, e, h3⟩ := hx
      exact ⟨us, e, RCs.shift hlo h3⟩
    · rename_i hb
      rw [if_neg hb] at hx
      obtain ⟨c, e, h3⟩ := hx
      exact ⟨_, by rw [e]; rfl, RC.shift hlo h3⟩

theorem HB.shift {w : World} {p : Nat × Nat} {b : Blk} (hlo : ∀ i p, β' i = some p → i < l) (h : HB M β' w p b) : HB M (β.join n β' l) w p (b.shift n) := by
  cases b with
  | box cs => obtain ⟨full, ty, h1, h2⟩ := h; exact ⟨full, ty, h1, RCs.shift hlo h2⟩
  | arr e cs => exact h
  | frz cs => exact h
  | map ka va es => exact h
  | gone => trivial
theorem Blk.shift_live (b : Blk) : (b.shift n).live = b.live := by cases b <;> rfl
end

theorem stOf_get (nb : List Blk) (i : Nat) : (stOf nb).get i = nb[i]? := by
  unfold stOf
  rw [get_news]
  by_cases h : i < nb.length
  · rw [if_pos (by omega)]; simp
  · rw [if_neg (by omega), Tr.get_leaf]
    exact (List.getElem?_eq_none (by omega)).symm

theorem below_grown {w w' : World} (h : Below w.heap.size w w') : w.grownBy w' none := ⟨h.os, h.tape, h.output, h.size, fun k hk _ => h.block k hk⟩

section
variable {B : Fr} {w0 w w' : World} {M M' : Mem} {β β' : Bet} {st : Tr Blk} {n : Nat}

theorem join_ok {nb : List Blk} (hI : Inv B w0 M β st n w) (hn : ∀ id, n ≤ id → id < n + nb.length → ¬ B.hi id) (hC : Inv (fr0 w M) w M' β' (stOf nb) nb.length w') (hM : Mle M M') :
    Inv B w0 M' (β.join n β' nb.length) (putAll st (news n (nb.map (Blk.shift n)))) (n + nb.length) w' ∧ Ble β (β.join n β' nb.length) ∧ ∀ i p, β' i = some p → i < nb.length := by
  have hlo : ∀ i p, β' i = some p → i < nb.length := fun i p h => ((hC.low i p h).resolve_right (fun h => h)).2
  have hble : Ble β (β.join n β' nb.length) := fun i p h => by
    unfold Bet.join
    rw [if_neg]
    · exact h
    · intro hr
      rcases hI.low i p h with h1 | h1
      · omega
      · exact hn i hr.1 hr.2 h1
  have hb' : Below w.heap.size w w' := hC.below
  have hold : ∀ i bi q, ¬ (n ≤ i ∧ i < n + nb.length) → st.get i = some bi → bi.live = true → (β.join n β' nb.length) i = some q → q.1 < w.heap.size := fun i bi q hi hg hl hq => by
    obtain ⟨q', hq', hH⟩ := hI.blk i bi hg
    unfold Bet.join at hq
    rw [if_neg hi, hq'] at hq
    obtain rfl : q' = q := by simpa using hq
    exact hH.lt hl
  have hget : ∀ i b, (putAll st (news n (nb.map (Blk.shift n)))).get i = some b → (n ≤ i ∧ i < n + nb.length ∧ ∃ b0, nb[i - n]? = some b0 ∧ b = b0.shift n) ∨ (¬ (n ≤ i ∧ i < n + nb.length) ∧ st.get i = some b) := by
    intro i b h
    rw [get_news] at h
    simp only [List.length_map, List.getElem?_map] at h
    by_cases hr : n ≤ i ∧ i < n + nb.length
    · rw [if_pos hr] at h
      cases hx : nb[i - n]? with
      | none => rw [hx] at h; cases h
      | some b0 => rw [hx] at h; exact .inl ⟨hr.1, hr.2, b0, rfl, by simpa using h.symm⟩
    · rw [if_neg hr] at h
      exact .inr ⟨hr, h⟩
  have hin : ∀ i, n ≤ i → i < n + nb.length → (β.join n β' nb.length) i = β' (i - n) := fun i h1 h2 => by unfold Bet.join; rw [if_pos ⟨h1, h2⟩]
  have hout : ∀ i, ¬ (n ≤ i ∧ i < n + nb.length) → (β.join n β' nb.length) i = β i := fun i h => by unfold Bet.join; rw [if_neg h]
  have hB : B.b ≤ w.heap.size := Nat.le_trans hI.base hI.below.size
  have hnewlive : ∀ i b0 p, nb[i]? = some b0 → b0.live = true → β' i = some p → M' p.1 = none ∧ w.heap.size ≤ p.1 := fun i b0 p h1 h2 h3 => by
    obtain ⟨a1, a2, _⟩ := hC.live i b0 p (by rw [stOf_get]; exact h1) h2 h3
    exact ⟨a1, a2⟩
  refine ⟨⟨hC.agree, ?_, ?_, ?_, ?_, Nat.le_trans hI.lo (Nat.le_add_right _ _), ?_, hI.base, ?_, ?_⟩, hble, hlo⟩
  · intro i b h
    rcases hget i b h with ⟨h1, h2, b0, h3, rfl⟩ | ⟨hr, h⟩
    · obtain ⟨p, hp, hH⟩ := hC.blk (i - n) b0 (by rw [stOf_get]; exact h3)
      exact ⟨p, by rw [hin i h1 h2]; exact hp, hH.shift hlo⟩
    · obtain ⟨p, hp, hH⟩ := hI.blk i b h
      exact ⟨p, hble _ _ hp, hH.keep hM hble fun _ o ho => by rw [hb'.block _ (Array.getElem?_eq_some_iff.1 ho).1]; exact ho⟩
  · intro i b p h hl hp
    rcases hget i b h with ⟨h1, h2, b0, h3, rfl⟩ | ⟨hr, h⟩
    · rw [hin i h1 h2] at hp
      rw [Blk.shift_live] at hl
      obtain ⟨a1, a2⟩ := hnewlive _ _ _ h3 hl hp
      refine ⟨a1, by omega, ?_⟩
      cases hx : B.X p.1 with
      | none => rfl
      | some o => have := (Array.getElem?_eq_some_iff.1 (hI.kept _ _ hx)).1; omega
    · rw [hout i hr] at hp
      obtain ⟨a1, a2, a3⟩ := hI.live i b p h hl hp
      refine ⟨?_, a2, a3⟩
      cases hx : M' p.1 with
      | none => rfl
      | some mc =>
        obtain ⟨q, hq, hH⟩ := hI.blk i b h
        rw [hp] at hq
        obtain rfl : p = q := by simpa using hq
        have hlt := hH.lt hl
        rcases hC.old _ _ hx with h1 | h1
        · have h1' : M p.1 = some mc := h1
          rw [a1] at h1'; cases h1'
        · have h1' : w.heap.size ≤ p.1 := h1.1
          omega
  · intro i j bi bj p q hi hj hli hlj hp hq hne
    rcases hget i bi hi with ⟨h1, h2, b0, h3, rfl⟩ | ⟨hr, h⟩
    · rw [hin i h1 h2] at hp
      rw [Blk.shift_live] at hli
      rcases hget j bj hj with ⟨k1, k2, c0, k3, rfl⟩ | ⟨kr, k⟩
      · rw [hin j k1 k2] at hq
        rw [Blk.shift_live] at hlj
        exact hC.apart (i - n) (j - n) b0 c0 p q (by rw [stOf_get]; exact h3) (by rw [stOf_get]; exact k3) hli hlj hp hq (by omega)
      · have := hold j bj q kr k hlj hq
        have := (hnewlive _ _ _ h3 hli hp).2
        omega
    · rcases hget j bj hj with ⟨k1, k2, c0, k3, rfl⟩ | ⟨kr, k⟩
      · rw [hin j k1 k2] at hq
        rw [Blk.shift_live] at hlj
        have := hold i bi p hr h hli hp
        have := (hnewlive _ _ _ k3 hlj hq).2
        omega
      · rw [hout i hr] at hp
        rw [hout j kr] at hq
        exact hI.apart i j bi bj p q h k hli hlj hp hq hne
  · intro i p hp
    by_cases hr : n ≤ i ∧ i < n + nb.length
    · exact .inl ⟨by have := hI.lo; omega, hr.2⟩
    · rw [hout i hr] at hp
      exact (hI.low i p hp).imp (fun _ => by omega) (fun x => x)
  · exact hI.below.trans (hb'.mono hB)
  · intro q o hq
    have h1 := hI.kept q o hq
    rw [hb'.block _ (Array.getElem?_eq_some_iff.1 h1).1]
    exact h1
  · intro b mc hb
    rcases hC.old b mc hb with h1 | h1
    · exact hI.old b mc h1
    · have h1' : w.heap.size ≤ b := h1.1
      refine .inr ⟨by omega, ?_⟩
      cases hx : B.X b with
      | none => rfl
      | some o => have := (Array.getElem?_eq_some_iff.1 (hI.kept _ _ hx)).1; omega

theorem scalar_cell {val : Value} {c : C} (h : RC M' β' val c) (hs : c.scalar = true) : RC M β val c := by
  cases c with
  | t x => cases x with
    | v x =>
      have h' : RT M' val (.v x) := h
      show RT M val (.v x)
      unfold RT at *
      exact h'
    | _ => cases hs
  | _ => cases hs

theorem scalar_cells : ∀ {vs : List Value} {cs : List C}, All2 (RC M' β') vs cs → cs.all C.scalar = true → All2 (RC M β) vs cs
  | [], [], _, _ => trivial
  | [], _ :: _, hr, _ => hr.elim
  | _ :: _, [], hr, _ => hr.elim
  | _ :: _, _ :: _, hr, hs => by
    simp only [List.all_cons, Bool.and_eq_true] at hs
    exact ⟨scalar_cell hr.1 hs.1, scalar_cells hr.2 hs.2⟩

theorem scalar_ok {val : Value} {v : V} (h : RV M' β' val v) (hs : v.scalar = true) : RV M β val v := by
  cases v with
  | c x => exact scalar_cell h hs
  | agg cs => obtain ⟨vs, e, h2⟩ := h; exact ⟨vs, e, scalar_cells h2 hs⟩
  | tup xs =>
    obtain ⟨vs, e, h2⟩ := h
    refine ⟨vs, e, ?_⟩
    have hs' : ∀ x ∈ xs, x.2.all C.scalar = true := by simpa [V.scalar] using hs
    clear e hs
    induction xs generalizing vs with
    | nil => cases vs with
      | nil => trivial
      | cons _ _ => exact h2.elim
    | cons x xs ih => cases vs with
      | nil => exact h2.elim
      | cons y ys =>
        refine ⟨?_, ih _ h2.2 fun z hz => hs' z (List.mem_cons_of_mem _ hz)⟩
        have hx := hs' x List.mem_cons_self
        have h3 := h2.1
        unfold RG at *
        split
        · rename_i hb
          rw [if_pos hb] at h3
          obtain ⟨us, e, h4⟩ := h3
          exact ⟨us, e, scalar_cells h4 hx⟩
        · rename_i hb
          rw [if_neg hb] at h3
          obtain ⟨c, e, h4⟩ := h3
          refine ⟨c, e, scalar_cell h4 ?_⟩
          rw [e] at hx
          simpa using hx
end

/-! ### The operation -/
section
variable {P : Program} {B : Fr} {w0 w : World} {M : Mem} {β : Bet} {st st' : Tr Blk} {n n' : Nat} {v : V} {u : List (Nat × Blk)} {o : Oper} {a : Act} {rd : Opd → V}

theorem run_callFunc {f : FuncId} (hf : FnOk P f) (args : Array Value) : (callFunc f args).run P w = .ok (.enter f args) w := by
  obtain ⟨fn, h1, h2, h3⟩ := hf
  have h2' : ¬ fn.name = "runtime.NumGoroutine" := by simpa using h2
  have h3' : ¬ fn.body = none := fun e => by rw [e] at h3; cases h3
  simp [callFunc, h1, h2', h3']

theorem run_call_func {c : Call} {f : FuncId} (ho : o.op = .call c) (hc : c.callee = .value (.func f)) (hf : FnOk P f) : (execOp a.eval o).run P w = .ok (.enter f (c.args.toList.map a.eval).toArray) w := by
  simp only [execOp, ho, resolve, hc, Deferred.ofValue, Act.eval, Sem.run_bind, Sem.run_pure, Result.andThen_ok, invoke]
  rw [run_callFunc hf]
  congr 2
  apply Array.toList_inj.1
  simp

theorem op_call {kk : K} (hI : Inv B w0 M β st n w) (hn : ∀ id, n ≤ id → id < n' → ¬ B.hi id) (hrd : RD M β a rd) {c : Call} {f : FuncId} {xs : List Opd} (ho : o.op = .call c) (hc : c.callee = .value (.func f)) (hxs : slimOs c.args.toList = some xs)
    (hk : ∀ ts r nb, kk.iso f ts = some (r, nb) → Iso P f ts r nb) (he : evCall kk st.get n f (xs.map rd) = some (v, u, n')) : OpStep P B w0 M β (putAll st u) n' v o a w := by
  have hargs := slimOs_ok hrd _ _ hxs
  unfold evCall at he
  split at he
  · cases he
  · rename_i ts us hts
    split at he
    · cases he
    · rename_i r nb hr
      obtain ⟨hf, hcall⟩ := hk _ _ _ hr
      obtain ⟨M1, hM1, hI1, _, hr1⟩ := toVs_ok (Fz.refl st) hI hargs hts
      have hC := hcall M1 w _ hI1.agree hr1
      intro next Q hnext
      unfold Oper.wp
      rw [run_call_func ho hc hf, Oper.upon_enter]
      refine Calls.mono hC fun e w' hR => ?_
      cases e with
      | returned val =>
        obtain ⟨M', β', hI', hv, hM'⟩ := hR
        split at he
        · rename_i hs
          simp only [Bool.and_eq_true] at hs
          obtain ⟨rfl, rfl, rfl⟩ : r = v ∧ [] = u ∧ n = n' := by simpa using he
          have hb' : Below w.heap.size w w' := hI'.below
          exact hnext val w' M β (hI.idle (below_grown hb')) (scalar_ok hv hs.1) (Mle.refl _) (Ble.refl _)
        · obtain ⟨rfl, rfl, rfl⟩ : r.shift n = v ∧ us ++ news n (nb.map (Blk.shift n)) = u ∧ n + nb.length = n' := by simpa using he
          obtain ⟨h1, h2, h3⟩ := join_ok hI1 hn hI' hM'
          rw [putAll_append] at hnext
          exact hnext val w' M' _ h1 (RV.shift h3 hv) (hM1.trans hM') h2
      | panicked c => exact hR.elim
      | outgrown => exact hR.elim

theorem op_call_shr {kk : K} (hB : ∀ i, ¬ B.hi i) (hI : Inv B w0 M β st n w) (hrd : RD M β a rd) {c : Call} {f : FuncId} {xs : List Opd} (ho : o.op = .call c) (hc : c.callee = .value (.func f)) (hxs : slimOs c.args.toList = some xs)
    (hk : ∀ args st n v st' n', kk.run f args st n = some (v, st', n') → Shr P f args st n v st' n') (he : kk.run f (xs.map rd) st n = some (v, st', n')) : OpStep P B w0 M β st' n' v o a w := by
  have hargs := slimOs_ok hrd _ _ hxs
  obtain ⟨hf, hcall⟩ := hk _ _ _ _ _ _ he
  intro next Q hnext
  unfold Oper.wp
  rw [run_call_func ho hc hf, Oper.upon_enter]
  refine Calls.mono (hcall B w0 M β w _ hB hI hargs) fun e w' hR => ?_
  cases e with
  | returned val =>
    obtain ⟨M', β', h1, h2, h3, h4⟩ := hR
    exact hnext val w' M' β' h1 h2 h3 h4
  | panicked c => exact hR.elim
  | outgrown => exact hR.elim

theorem run_call_val {c : Call} {f : FuncId} {x : Operand} {ps : List Value} (ho : o.op = .call c) (hc : c.callee = .value x) (hx : a.eval x = .func (.func f) #[] ps.toArray) (hf : FnOk P f) :
    (execOp a.eval o).run P w = .ok (.enter f (c.args.toList.map a.eval ++ ps).toArray) w := by
  simp only [execOp, ho, resolve, hc, hx, Deferred.ofValue, Sem.run_bind, Sem.run_pure, Result.andThen_ok, invoke]
  rw [run_callFunc hf]
  congr 2
  apply Array.toList_inj.1
  simp

theorem clo_caps : ∀ {ps : List Value} {caps : List (Nat × Nat)}, All2 (fun v (c : Nat × Nat) => ∃ p, β c.1 = some p ∧ v = .pointer (some ⟨p.1, c.2, none⟩)) ps caps → All2 (RV M β) ps (caps.map fun p => V.c (.ptr p.1 p.2))
  | [], [], _ => trivial
  | [], _ :: _, hr => hr.elim
  | _ :: _, [], hr => hr.elim
  | _ :: _, _ :: _, hr => ⟨hr.1, clo_caps hr.2⟩

theorem fn_caps : ∀ {ps : List Value} {caps : List T}, RPs M ps caps → All2 (RV M β) ps (caps.map fun t => V.c (.tp [t]))
  | [], [], _ => trivial
  | [], _ :: _, hr => by unfold RPs at hr; exact hr.elim
  | _ :: _, [], hr => by unfold RPs at hr; exact hr.elim
  | _ :: _, _ :: _, hr => by
    unfold RPs at hr
    obtain ⟨⟨b, x, mc, e, hm, hx⟩, hr⟩ := hr
    refine ⟨⟨b, 0, x :: mc, e, hm, ?_⟩, fn_caps hr⟩
    simp only [List.drop_zero]
    unfold RTs
    exact ⟨hx, by unfold RTs; trivial⟩

theorem op_callv {kk : K} (hB : ∀ i, ¬ B.hi i) (hI : Inv B w0 M β st n w) (hrd : RD M β a rd) {c : Call} {x : Operand} {x' : Opd} {xs : List Opd} (ho : o.op = .call c) (hc : c.callee = .value x) (hx : slimO x = some x') (hxs : slimOs c.args.toList = some xs)
    (hk : ∀ f args st n v st' n', kk.run f args st n = some (v, st', n') → Shr P f args st n v st' n') {f : FuncId} {more : List V}
    (he : kk.run f (xs.map rd ++ more) st n = some (v, st', n'))
    (hm : (∃ caps, rd x' = .c (.clo f caps) ∧ more = caps.map fun p => V.c (.ptr p.1 p.2)) ∨ (∃ caps, rd x' = .c (.t (.fn f caps)) ∧ more = caps.map fun t => V.c (.tp [t]))) : OpStep P B w0 M β st' n' v o a w := by
  have hargs := slimOs_ok hrd _ _ hxs
  have hvx := hrd x x' hx
  obtain ⟨hf, hcall⟩ := hk _ _ _ _ _ _ _ he
  obtain ⟨ps, hps, hmore⟩ : ∃ ps : List Value, a.eval x = .func (.func f) #[] ps.toArray ∧ All2 (RV M β) ps more := by
    rcases hm with ⟨caps, h1, rfl⟩ | ⟨caps, h1, rfl⟩
    · rw [h1] at hvx
      obtain ⟨ps, e, h2⟩ := hvx
      exact ⟨ps, e, clo_caps h2⟩
    · rw [h1] at hvx
      have h' : RT M (a.eval x) (.fn f caps) := hvx
      unfold RT at h'
      obtain ⟨ps, e, h2⟩ := h'
      exact ⟨ps, e, fn_caps h2⟩
  intro next Q hnext
  unfold Oper.wp
  rw [run_call_val ho hc hps hf, Oper.upon_enter]
  refine Calls.mono (hcall B w0 M β w _ hB hI (hargs.append hmore)) fun e w' hR => ?_
  cases e with
  | returned val =>
    obtain ⟨M', β', h1, h2, h3, h4⟩ := hR
    exact hnext val w' M' β' h1 h2 h3 h4
  | panicked c => exact hR.elim
  | outgrown => exact hR.elim
end
end Go.Proofs.Sg
