/- The frame, part L: append, copy, clear, min, max, maps, nil checks. -/
import Derived.Test.YtcijgahloogooaaFrK
namespace Go.Proofs.Sg
open Go.RowKit

section
variable {P : Program} {tt : TT} {B : Fr} {w0 w : World} {M : Mem} {β : Bet} {st : Tr Blk} {n n' : Nat} {v : V} {u : List (Nat × Blk)} {o : Oper} {a : Act} {rd : Opd → V}

theorem RTs.pad {M : Mem} : ∀ {vs : List Value} {ts : List T}, RTs M vs ts → ∀ us, RTs M (vs ++ us) ts
  | _, [], _, _ => by unfold RTs; trivial
  | [], _ :: _, h, _ => by unfold RTs at h; exact h.elim
  | _ :: _, _ :: _, h, us => by unfold RTs at h; simp only [List.cons_append]; unfold RTs; exact ⟨h.1, RTs.pad h.2 us⟩

theorem op_mm (hI : Inv B w0 M β st n w) (hrd : RD M β a rd) {c : Call} {x y : Operand} {x' y' : Opd} {mx : Bool} (ho : o.op = .call c) (hc : c.callee = .builtin (if mx then .max else .min)) (hxs : c.args.toList = [x, y]) (hx : slimO x = some x') (hy : slimO y = some y')
    (he : evIns st.get n rd (.mm mx x' y') = some (v, u, n')) : OpStep P B w0 M β (putAll st u) n' v o a w := by
  have hvx := hrd x x' hx
  have hvy := hrd y y' hy
  simp only [evIns] at he
  split at he
  · rename_i k p k' q h1 h2
    rw [h1] at hvx
    rw [h2] at hvy
    obtain ⟨hp, _⟩ := rv_v hvx
    obtain ⟨hq, _⟩ := rv_v hvy
    split at he
    · rename_i hk
      subst hk
      obtain ⟨rfl, rfl, rfl⟩ : V.int k (if mx then (if p < q then q else p) else (if q < p then q else p)) = v ∧ [] = u ∧ n = n' := by simpa using he
      refine OpStep.pure (val := .int k (if mx then (if p < q then q else p) else (if q < p then q else p))) ?_ hI (rv_mk rfl)
      have ha : c.args = #[x, y] := by rw [← Array.toArray_toList (xs := c.args), hxs]
      cases mx with
      | true =>
        simp only [execOp, ho, resolve, hc, Sem.run_bind, Sem.run_pure, Result.andThen_ok, invoke, ha, if_true, builtin, Builtin.max_]
        simp [hp, hq, Builtin.max2]
      | false =>
        simp only [execOp, ho, resolve, hc, Sem.run_bind, Sem.run_pure, Result.andThen_ok, invoke, ha, Bool.false_eq_true, if_false, builtin, Builtin.min_]
        simp [hp, hq, Builtin.min2]
    · cases he
  · cases he

theorem op_nilc (hI : Inv B w0 M β st n w) (hrd : RD M β a rd) {x : Operand} {x' : Opd} (ho : o.op = .nilCheck x) (hx : slimO x = some x') (he : evIns st.get n rd (.nilc x') = some (v, u, n')) : OpStep P B w0 M β (putAll st u) n' v o a w := by
  have hvx := hrd x x' hx
  simp only [evIns] at he
  split at he
  · rename_i id off h1
    rw [h1] at hvx
    obtain ⟨rfl, rfl, rfl⟩ : V.c (.ptr id off) = v ∧ [] = u ∧ n = n' := by simpa using he
    refine OpStep.pure ?_ hI hvx
    obtain ⟨p, _, h2⟩ := hvx
    simp [execOp, ho, h2]
  · rename_i cs h1
    rw [h1] at hvx
    obtain ⟨rfl, rfl, rfl⟩ : V.c (.tp cs) = v ∧ [] = u ∧ n = n' := by simpa using he
    refine OpStep.pure ?_ hI hvx
    obtain ⟨b, off, mc, h2, _⟩ := hvx
    simp [execOp, ho, h2]
  · rename_i f caps h1
    rw [h1] at hvx
    obtain ⟨rfl, rfl, rfl⟩ : V.c (.clo f caps) = v ∧ [] = u ∧ n = n' := by simpa using he
    refine OpStep.pure ?_ hI hvx
    obtain ⟨ps, h2, _⟩ := hvx
    simp [execOp, ho, h2]
  · rename_i f caps h1
    rw [h1] at hvx
    obtain ⟨rfl, rfl, rfl⟩ : V.c (.t (.fn f caps)) = v ∧ [] = u ∧ n = n' := by simpa using he
    refine OpStep.pure ?_ hI hvx
    have h' : RT M (a.eval x) (.fn f caps) := hvx
    unfold RT at h'
    obtain ⟨ps, h2, _⟩ := h'
    simp [execOp, ho, h2]
  · cases he

theorem run_firstCells {e : Nat} {A : Option Addr} {m cap : Nat} {vs : List Value} (hl : vs.length = m * e)
    (hw : (A = none ∧ m = 0) ∨ (m = 0 ∧ vs = []) ∨ ∃ b off full ty fr, A = some ⟨b, off, none⟩ ∧ w.heap[b]? = some (.cells full ty fr) ∧ vs = (full.toList.drop off).take (m * e)) :
    (Builtin.firstCells e m (.slice A m cap)).run P w = .ok vs.toArray w := by
  have h0 : m = 0 → vs = [] := fun h => List.eq_nil_of_length_eq_zero (by rw [hl, h]; simp)
  cases A with
  | none =>
    rcases hw with ⟨_, h⟩ | ⟨_, h⟩ | ⟨b, off, full, ty, fr, h, _⟩
    · rw [h0 h]; simp [Builtin.firstCells]
    · rw [h]; simp [Builtin.firstCells]
    · cases h
  | some ad =>
    unfold Builtin.firstCells
    rw [← hl]
    refine run_loadCells_list (P := P) w ad vs fun j v hj => ?_
    rcases hw with ⟨h, _⟩ | ⟨_, h⟩ | ⟨b, off, full, ty, fr, h, hh, hvs⟩
    · cases h
    · rw [h] at hj; simp at hj
    · obtain rfl : ad = ⟨b, off, none⟩ := by simpa using h
      rw [Addr.add_mid', cell_of_row w b _ full ty fr hh]
      rw [hvs, List.getElem?_take] at hj
      split at hj
      · simpa using hj
      · cases hj

theorem run_append_room' {t ty e ty' : TypeId} {i : TypeInfo} (ht : P.underlying t = some (.slice e)) (hi : P.info? e = some i) {g off sLen sCap : Nat} {cur : Array Value} (hg : w.heap[g]? = some (.cells cur ty' (0, 0)))
    {A : Option Addr} {m c : Nat} {news : List Value} (hf : (Builtin.firstCells i.size m (.slice A m c)).run P w = .ok news.toArray w) (h1 : ∀ u ∈ news, u.oneCell' = true)
    (hroom : sLen + m ≤ sCap) (hfit : off + sLen * i.size + news.length ≤ cur.size) :
    (Builtin.append_ #[t, t] ty #[.slice (some ⟨g, off, none⟩) sLen sCap, .slice A m c]).run P w =
      .ok (.slice (some ⟨g, off, none⟩) (sLen + m) sCap) (w.setRow g (cur.toList.take (off + sLen * i.size) ++ news ++ cur.toList.drop (off + sLen * i.size + news.length)).toArray) := by
  have hst := run_storeCells_at (P := P) g (off + sLen * i.size) ty' news 0 cur w hg (by simpa using hfit) h1
  simp only [Nat.add_zero] at hst
  simp [Builtin.append_, run_underlying ht, sizeOf, typeInfo, hi, Builtin.lenOf, hroom, hf, Addr.add_mid', hst]

theorem run_append_grow' {t ty e : TypeId} {i : TypeInfo} {z : Value} (ht : P.underlying t = some (.slice e)) (hi : P.info? e = some i) (hz : i.zero = some z)
    {b A : Option Addr} {sLen sCap : Nat} {olds : List Value} (hfo : (Builtin.firstCells i.size sLen (.slice b sLen sCap)).run P w.drew = .ok olds.toArray w.drew)
    {m c : Nat} {news : List Value} (hf : (Builtin.firstCells i.size m (.slice A m c)).run P w.drew = .ok news.toArray w.drew)
    (hg : sCap < sLen + m) (h63 : sLen + m ≤ 9223372036854775807) (hfit : Builtin.nextslicecap (sLen + m) sCap * i.bytes ≤ 281474976710656) :
    (Builtin.append_ #[t, t] ty #[.slice b sLen sCap, .slice A m c]).run P w =
      .ok (.slice (some ⟨w.heap.size, 0, none⟩) (sLen + m) (grownCap w (sLen + m) sCap e))
        (w.drew.alloc (.cells (olds.toArray ++ news.toArray ++ Builtin.zeroCells z.cells (grownCap w (sLen + m) sCap e - (sLen + m))) e)) := by
  have hn : ¬ (sLen + m ≤ sCap) := by omega
  have h63' : ¬ (9223372036854775807 < ((sLen : Int) + (m : Int))) := by omega
  have h48' : ¬ (281474976710656 < Builtin.nextslicecap (sLen + m) sCap * i.bytes) := by omega
  simp [Builtin.append_, run_underlying ht, sizeOf, typeInfo, zeroValue, hi, hz, Builtin.lenOf, hn, h63', h48', Question.forced, newRow, grownCap, hf, hfo]
  rw [← Array.append_assoc]
  simp

theorem grow_alloc_drew (w : World) (o : Obj) (row : Option Nat) : w.grownBy (w.drew.alloc o) row :=
  ⟨rfl, rfl, rfl, by simp, fun k hk _ => heap_alloc_old w.drew o k hk⟩

theorem op_app (htt : TTok P tt) (hI : Inv B w0 M β st n w) (hn : ∀ id, n ≤ id → id < n' → ¬ B.hi id) (hrd : RD M β a rd) {c : Call} {t e : TypeId} {d de : TD} {z : List Value} {x y : Operand} {x' y' : Opd} (ho : o.op = .call c) (hc : c.callee = .builtin .append) (hts : c.argTypes.toList = [t, t]) (hxs : c.args.toList = [x, y]) (ht : tt t = some d)
    (hd : d.desc = .slice e) (hde : tt e = some de) (hz : de.zero = some z) (h0 : 0 < de.size) (hb0 : 0 < de.bytes) (hx : slimO x = some x') (hy : slimO y = some y') (he : evIns st.get n rd (.app de.size de.bytes x' y') = some (v, u, n')) : OpStep P B w0 M β (putAll st u) n' v o a w := by
  have hvx := hrd x x' hx
  have hvy := hrd y y' hy
  have ha : c.args = #[x, y] := by rw [← Array.toArray_toList (xs := c.args), hxs]
  have hat : c.argTypes = #[t, t] := by rw [← Array.toArray_toList (xs := c.argTypes), hts]
  have hut : P.underlying t = some (.slice e) := by rw [(htt t d ht).und, hd]
  obtain ⟨i, hi, hi1, hi2, hi3⟩ := (htt e de hde).info
  obtain ⟨_, hzl, zv, hz1, hz2⟩ := hi3 z hz
  have hrunv : ∀ {val : Value} {w' : World}, (Builtin.append_ #[t, t] o.type #[a.eval x, a.eval y]).run P w = .ok val w' → (execOp a.eval o).run P w = .ok (.value val) w' := fun {val w'} h => by
    simp only [execOp, ho, resolve, hc, Sem.run_bind, Sem.run_pure, Result.andThen_ok, invoke, ha, hat, builtin]
    simp [h]
  simp only [evIns] at he
  cases hsrc : srcOf st.get de.size (rd y') with
  | none => simp [hsrc] at he
  | some g =>
    obtain ⟨m, new⟩ := g
    simp only [hsrc] at he
    obtain ⟨hlen, hmm, A, cap, vs, hval, hT, hw⟩ := srcOf_ok hI h0 hvy hsrc
    have hvl : vs.length = m * de.size := by rw [hT.length]; exact hlen
    have hvone := RTs2.one hT
    have hfc : ∀ w', w'.heap = w.heap → (Builtin.firstCells i.size m (.slice A m cap)).run P w' = .ok vs.toArray w' := fun w' hw' => by
      rw [hi1]
      exact run_firstCells hvl (by rw [hw']; exact hw)
    split at he
    · rename_i hm
      subst hm
      have hvs : vs = [] := List.eq_nil_of_length_eq_zero (by rw [hvl]; simp)
      -- nothing is appended
      have hsame : ∀ (b : Option Addr) (l cp : Nat), a.eval x = .slice b l cp → l ≤ cp → (execOp a.eval o).run P w = .ok (.value (a.eval x)) w := fun b l cp hb hle => by
        refine hrunv ?_
        rw [hb, hval]
        have hf0' : (Builtin.firstCells i.size 0 (.slice A 0 cap)).run P w = .ok #[] w := by rw [hfc w rfl, hvs]
        simp [Builtin.append_, run_underlying hut, sizeOf, typeInfo, hi, Builtin.lenOf, hle, hf0']
        cases b <;> simp [storeCells]
      split at he
      · rename_i hr
        obtain ⟨rfl, rfl, rfl⟩ : rd x' = v ∧ [] = u ∧ n = n' := by simpa using he
        rw [hr] at hvx
        have := rv_v hvx
        exact OpStep.pure (hsame none 0 0 this.1 (Nat.le_refl _)) hI (by rw [hr]; exact hvx)
      · rename_i id e' off len hr
        obtain ⟨rfl, rfl, rfl⟩ : V.c (.own id e' off len) = v ∧ [] = u ∧ n = n' := by simpa using he
        rw [hr] at hvx
        have hvx' := hvx
        obtain ⟨p, cp, hp, h1, h2, h3, h4⟩ := hvx'
        exact OpStep.pure (hsame _ _ _ h1 h2) hI hvx
      · rename_i k cs hr
        obtain ⟨rfl, rfl, rfl⟩ : V.c (.t (.sl k cs)) = v ∧ [] = u ∧ n = n' := by simpa using he
        rw [hr] at hvx
        have h' : RT M (a.eval x) (.sl k cs) := hvx
        unfold RT at h'
        obtain ⟨A', cp, h1, h2, _⟩ := h'
        exact OpStep.pure (hsame _ _ _ h1 h2) hI hvx
      · cases he
    · rename_i hm
      split at he
      · -- onto nil
        rename_i hr
        split at he
        · rename_i hroom
          simp only [room, decide_eq_true_eq] at hroom
          obtain ⟨rfl, rfl, rfl⟩ : V.c (.own n de.size 0 m) = v ∧ [(n, Blk.arr de.size new)] = u ∧ n + 1 = n' := by simpa using he
          rw [hr] at hvx
          have hxv := (rv_v hvx).1
          have hmb : m ≤ m * de.bytes := Nat.le_mul_of_pos_right _ hb0
          have hrun := run_append_grow' (P := P) (w := w) (ty := o.type) hut hi hz1 (b := none) (A := A) (sLen := 0) (sCap := 0) (olds := []) (by simp [Builtin.firstCells]) (hfc w.drew rfl) (by omega) (by omega) (growslice_fits (by omega) (by rw [hi2, Nat.zero_add]; omega))
          simp only [Nat.zero_add] at hrun
          have hXe : (([] : List Value).toArray ++ vs.toArray ++ Builtin.zeroCells zv.cells (grownCap w m 0 e - m)) = (vs ++ (Builtin.zeroCells zv.cells (grownCap w m 0 e - m)).toList).toArray := by simp
          rw [hXe] at hrun
          have hge := grownCap_ge w m 0 e
          have hcm : grownCap w m 0 e ≤ maxLen := grownCap_le_maxLen w m 0 e (by simp only [maxLen]; omega)
          have hbb : HB M (β.ext n (w.heap.size, grownCap w m 0 e * de.size)) (w.drew.alloc (.cells (vs ++ (Builtin.zeroCells zv.cells (grownCap w m 0 e - m)).toList).toArray e)) (w.heap.size, grownCap w m 0 e * de.size) (.arr de.size new) := by
            refine ⟨_, e, heap_alloc_new w.drew _, ?_, ?_⟩
            · simp only [List.length_append, Array.length_toList, List.size_toArray, size_zeroCells, hz2, hzl, hvl]
              rw [← Nat.add_mul]
              congr 1
              omega
            · exact RTs.pad (RTs.all2 hT) _
          refine OpStep.value (hrunv (by rw [hxv, hval]; exact hrun)) (hI.fresh (hn n (Nat.le_refl _) (Nat.lt_succ_self _)) (grow_alloc_drew w _ none) (Nat.le_refl _) hbb) ⟨_, grownCap w m 0 e, Bet.ext_at _ _ _, rfl, hge, hcm, by simp⟩ (Mle.refl _) (hI.ble (hn n (Nat.le_refl _) (Nat.lt_succ_self _)) _)
        · cases he
      · -- onto what is owned
        rename_i id e' len hr
        cases hg : st.get id with
        | none => simp [hg] at he
        | some b =>
          obtain ⟨q, hq, hH⟩ := hI.blk id b hg
          cases b with
          | arr e2 cs =>
            simp only [hg] at he
            split at he
            · rename_i hcnd
              simp only [Bool.and_eq_true, decide_eq_true_eq, room] at hcnd
              obtain ⟨⟨⟨rfl, rfl⟩, hle⟩, hroom⟩ := hcnd
              obtain ⟨rfl, rfl, rfl⟩ : V.c (.own n de.size 0 (len + m)) = v ∧ [(id, Blk.gone), (n, Blk.arr de.size (cs.take (len * de.size) ++ new))] = u ∧ n + 1 = n' := by simpa using he
              rw [hr] at hvx
              obtain ⟨p, cp, hp, hxv, hlc, hcm, htot⟩ := hvx
              rw [hp] at hq
              obtain rfl : p = q := by simpa using hq
              obtain ⟨full, ty, hh, hfl, hs⟩ := hH
              have hsl := hs.le
              have hmb : len + m ≤ (len + m) * de.bytes := Nat.le_mul_of_pos_right _ hb0
              simp only [Nat.zero_add] at htot
              by_cases hcap : len + m ≤ cp
              · -- in place
                have hfit : 0 + len * i.size + vs.length ≤ full.toArray.size := by
                  rw [hi1, hvl]
                  simp only [List.size_toArray, hfl, ← htot, Nat.zero_add, ← Nat.add_mul]
                  exact Nat.mul_le_mul_right _ hcap
                have hrun := run_append_room' (P := P) (w := w) (ty := o.type) hut hi hh (hfc w rfl) hvone hcap hfit
                simp only [Nat.zero_add, hi1] at hrun
                have hfl2 : len * de.size + vs.length ≤ full.length := by
                  rw [hi1] at hfit
                  simpa using hfit
                have hbb : HB M (β.ext n (p.1, p.2)) (w.setRow p.1 (full.take (len * de.size) ++ vs ++ full.drop (len * de.size + vs.length)).toArray) (p.1, p.2) (.arr de.size (cs.take (len * de.size) ++ new)) := by
                  refine ⟨_, ty, setRow_heap w p.1 _ _ ty _ hh, by simp; omega, ?_⟩
                  have h1 := hs.len_at (off := 0) (k := len * de.size) (by omega)
                  simp only [List.drop_zero] at h1
                  rw [List.append_assoc]
                  exact RTs.app h1 (RTs.pad (RTs.all2 hT) _)
                refine OpStep.value (hrunv (by rw [hxv, hval]; exact hrun)) (hI.again (hn n (Nat.le_refl _) (Nat.lt_succ_self _)) hg rfl hp (grownBy_setRow w p.1 _) hbb) ⟨(p.1, p.2), cp, Bet.ext_at _ _ _, rfl, hcap, hcm, by simpa using htot⟩ (Mle.refl _) (hI.ble (hn n (Nat.le_refl _) (Nat.lt_succ_self _)) _)
              · -- in new memory
                have hold : (Builtin.firstCells i.size len (.slice (some ⟨p.1, 0, none⟩) len cp)).run P w.drew = .ok (full.take (len * de.size)).toArray w.drew := by
                  rw [hi1]
                  refine run_firstCells (w := w.drew) (by simp; omega) (.inr (.inr ⟨p.1, 0, full.toArray, ty, (0, 0), rfl, hh, by simp⟩))
                have hrun := run_append_grow' (P := P) (w := w) (ty := o.type) hut hi hz1 hold (hfc w.drew rfl) (by omega) (by omega) (growslice_fits (by omega) (by rw [hi2]; omega))
                have hge := grownCap_ge w (len + m) cp e
                have hcm2 : grownCap w (len + m) cp e ≤ maxLen := grownCap_le_maxLen w (len + m) cp e (by simp only [maxLen]; omega)
                have hI2 := hI.drop hg
                have hXe : ((full.take (len * de.size)).toArray ++ vs.toArray ++ Builtin.zeroCells zv.cells (grownCap w (len + m) cp e - (len + m))) = (full.take (len * de.size) ++ (vs ++ (Builtin.zeroCells zv.cells (grownCap w (len + m) cp e - (len + m))).toList)).toArray := by simp
                rw [hXe] at hrun
                have hbb : HB M (β.ext n (w.heap.size, grownCap w (len + m) cp e * de.size)) (w.drew.alloc (.cells (full.take (len * de.size) ++ (vs ++ (Builtin.zeroCells zv.cells (grownCap w (len + m) cp e - (len + m))).toList)).toArray e)) (w.heap.size, grownCap w (len + m) cp e * de.size) (.arr de.size (cs.take (len * de.size) ++ new)) := by
                  refine ⟨_, e, heap_alloc_new w.drew _, ?_, ?_⟩
                  · simp only [List.length_append, Array.length_toList, List.size_toArray, size_zeroCells, hz2, hzl, hvl, List.length_take]
                    rw [Nat.min_eq_left (by omega), ← Nat.add_mul, ← Nat.add_mul]
                    congr 1
                    omega
                  · have h1 := hs.len_at (off := 0) (k := len * de.size) (by omega)
                    simp only [List.drop_zero] at h1
                    exact RTs.app h1 (RTs.pad (RTs.all2 hT) _)
                refine OpStep.value (hrunv (by rw [hxv, hval]; exact hrun)) (hI2.fresh (hn n (Nat.le_refl _) (Nat.lt_succ_self _)) (grow_alloc_drew w _ none) (Nat.le_refl _) hbb) ⟨_, grownCap w (len + m) cp e, Bet.ext_at _ _ _, rfl, hge, hcm2, by simp⟩ (Mle.refl _) (hI.ble (hn n (Nat.le_refl _) (Nat.lt_succ_self _)) _)
            · cases he
          | box _ => simp [hg] at he
          | frz _ => simp [hg] at he
          | map _ _ _ => simp [hg] at he
          | gone => simp [hg] at he
      · cases he
end
end Go.Proofs.Sg
