/- The frame, part I: loads, stores, places. -/
import Derived.Test.YtcijgahloogooaaFrH
namespace Go.Proofs.Sg
open Go.RowKit

section
variable {P : Program} {tt : TT} {B : Fr} {w0 w : World} {M : Mem} {β : Bet} {st : Tr Blk} {n n' : Nat} {v : V} {u : List (Nat × Blk)} {o : Oper} {a : Act} {rd : Opd → V}

theorem pre_take {full mc : List Value} (h : mc <+: full) (off k : Nat) (hk : off + k ≤ mc.length) : (full.drop off).take k = (mc.drop off).take k := by
  obtain ⟨r, rfl⟩ := h
  rw [List.drop_append_of_le_length (by omega), List.take_append_of_le_length (by simp; omega)]

theorem RTs.len_at {vs : List Value} {ts : List T} (h : RTs M vs ts) {off k : Nat} (hk : off + k ≤ ts.length) : All2 (RT M) ((vs.drop off).take k) ((ts.drop off).take k) := by
  have h1 := ((h.drop off).take k).get_all2
  have : ((ts.drop off).take k).length = k := by simp; omega
  rwa [this] at h1

theorem putAll_ne : ∀ (u : List (Nat × Blk)) (st : Tr Blk) (id : Nat), (∀ i b, (i, b) ∈ u → ¬ i = id) → (putAll st u).get id = st.get id
  | [], _, _, _ => rfl
  | (i, b) :: u, st, id, h => by
    simp only [putAll]
    rw [putAll_ne u (st.set i b) id (fun j c hj => h j c (List.mem_cons_of_mem _ hj)), Tr.get_set, if_neg (fun e => h i b (by simp) e.symm)]

theorem RTs.app {M : Mem} : ∀ {vs us : List Value} {ts rs : List T}, All2 (RT M) vs ts → RTs M us rs → RTs M (vs ++ us) (ts ++ rs)
  | [], _, [], _, _, h => h
  | [], _, _ :: _, _, h, _ => h.elim
  | _ :: _, _, [], _, h, _ => h.elim
  | _ :: _, _, _ :: _, _, h, h' => by unfold RTs; exact ⟨h.1, RTs.app h.2 h'⟩

/-- Some cells of a row are set. -/
theorem RTs.splice {M : Mem} {full vs : List Value} {cs ts : List T} (h : RTs M full cs) (ht : All2 (RT M) vs ts) {off m : Nat} (hl : ts.length = m) (hfit : off + m ≤ cs.length) :
    RTs M (full.take off ++ vs ++ full.drop (off + m)) (cs.take off ++ ts ++ cs.drop (off + m)) := by
  have h1 := h.len_at (off := 0) (k := off) (by omega)
  simp only [List.drop_zero] at h1
  rw [List.append_assoc, List.append_assoc]
  exact RTs.app h1 (RTs.app ht (h.drop (off + m)))

/-- The load at a place whose cells are known. -/
theorem load_at (htt : TTok P tt) (hI : Inv B w0 M β st n w) {t : TypeId} {d : TD} {x : Operand} {b off : Nat} {full : List Value} {ty : TypeId} {fr : Nat × Nat} {cs : List C} {v : V} (ho : o.op = .load t x) (ht : tt t = some d)
    (hx : a.eval x = .pointer (some ⟨b, off, none⟩)) (hh : w.heap[b]? = some (.cells full.toArray ty fr)) (hc : All2 (RC M β) ((full.drop off).take d.size) cs) (hl : ((full.drop off).take d.size).length = d.size) (hm : mk d.agg cs = some v) :
    OpStep P B w0 M β st n v o a w := by
  obtain ⟨h1, h2⟩ := mk_ok hm hc
  refine OpStep.pure (val := _) ?_ hI h1
  simp only [execOp, ho]
  refine run_v _ ?_
  unfold Instr.loadAt
  simp only [hx, Instr.sureAddr, Sem.run_bind, Sem.run_pure, Result.andThen_ok]
  exact loadVar_ok (htt t d ht) hh rfl hl h2

theorem op_load (htt : TTok P tt) (hI : Inv B w0 M β st n w) (hrd : RD M β a rd) {t : TypeId} {d : TD} {x : Operand} {y : Opd} (ho : o.op = .load t x) (ht : tt t = some d) (hx : slimO x = some y)
    (he : evIns st.get n rd (.load d.size d.agg y) = some (v, u, n')) : OpStep P B w0 M β (putAll st u) n' v o a w := by
  have hv := hrd x y hx
  simp only [evIns] at he
  cases hr : rd y with
  | c c =>
    rw [hr] at he hv
    cases c with
    | ptr id off =>
      obtain ⟨p, hp, hval⟩ := hv
      dsimp only at he
      cases hg : st.get id with
      | none => simp [hg] at he
      | some b =>
        obtain ⟨q, hq, hH⟩ := hI.blk id b hg
        rw [hp] at hq
        obtain rfl : p = q := by simpa using hq
        cases b with
        | box cs =>
          obtain ⟨full, ty, hh, hcs⟩ := hH
          simp only [hg] at he
          split at he
          · rename_i hle
            cases hm : mk d.agg ((cs.drop off).take d.size) with
            | none => rw [hm] at he; cases he
            | some v' =>
              rw [hm] at he
              obtain ⟨rfl, rfl, rfl⟩ : v' = v ∧ [] = u ∧ n = n' := by simpa using he
              have hl := hcs.length
              exact load_at htt hI ho ht hval hh ((hcs.drop off).take d.size) (by simp; omega) hm
          · cases he
        | arr e cs =>
          obtain ⟨full, ty, hh, _, hcs⟩ := hH
          simp only [hg] at he
          split at he
          · rename_i hle
            cases hm : mk d.agg (((cs.drop off).take d.size).map .t) with
            | none => rw [hm] at he; cases he
            | some v' =>
              rw [hm] at he
              obtain ⟨rfl, rfl, rfl⟩ : v' = v ∧ [] = u ∧ n = n' := by simpa using he
              have hl := hcs.le
              exact load_at htt hI ho ht hval hh (RTs_C (hcs.len_at hle)) (by simp; omega) hm
          · cases he
        | frz cs =>
          obtain ⟨mc, hm0, hcs⟩ := hH
          obtain ⟨full, ty, fr, hh, hpre⟩ := hI.agree p.1 mc hm0
          simp only [hg] at he
          split at he
          · rename_i hle
            cases hm : mk d.agg (((cs.drop off).take d.size).map .t) with
            | none => rw [hm] at he; cases he
            | some v' =>
              rw [hm] at he
              obtain ⟨rfl, rfl, rfl⟩ : v' = v ∧ [] = u ∧ n = n' := by simpa using he
              have hl := hcs.le
              have hl2 := hpre.length_le
              refine load_at htt hI ho ht hval hh ?_ (by simp; omega) hm
              rw [pre_take hpre off d.size (by omega)]
              exact RTs_C (hcs.len_at hle)
          · cases he
        | map _ _ _ => simp [hg] at he
        | gone => simp [hg] at he
    | tp cs =>
      obtain ⟨b, off, mc, hval, hm0, hcs⟩ := hv
      obtain ⟨full, ty, fr, hh, hpre⟩ := hI.agree b mc hm0
      dsimp only at he
      split at he
      · rename_i hle
        cases hm : mk d.agg ((cs.take d.size).map .t) with
        | none => rw [hm] at he; cases he
        | some v' =>
          rw [hm] at he
          obtain ⟨rfl, rfl, rfl⟩ : v' = v ∧ [] = u ∧ n = n' := by simpa using he
          have hl := hcs.le
          simp at hl
          have hl2 := hpre.length_le
          by_cases h0 : d.size = 0
          · refine load_at htt hI ho ht hval hh ?_ (by simp [h0]) hm
            simp [h0, All2]
          · refine load_at htt hI ho ht hval hh ?_ (by simp; omega) hm
            rw [pre_take hpre off d.size (by omega)]
            have := hcs.len_at (off := 0) (k := d.size) (by omega)
            simpa using RTs_C (β := β) this
      · cases he
    | t x => simp at he
    | own _ _ _ _ => simp at he
    | clo _ _ => simp at he
    | mp _ => simp at he
    | any => simp at he
  | agg _ => simp [hr] at he
  | tup _ => simp [hr] at he

theorem op_store (htt : TTok P tt) (hI : Inv B w0 M β st n w) (hrd : RD M β a rd) {t : TypeId} {d : TD} {x y : Operand} {x' y' : Opd} (ho : o.op = .store t x y) (ht : tt t = some d) (hx : slimO x = some x') (hy : slimO y = some y')
    (he : evIns st.get n rd (.store d.size x' y') = some (v, u, n')) : OpStep P B w0 M β (putAll st u) n' v o a w := by
  have hv := hrd x x' hx
  have hvy := hrd y y' hy
  simp only [evIns] at he
  cases hr : rd x' with
  | c c =>
    rw [hr] at he hv
    cases c with
    | ptr id off =>
      obtain ⟨p, hp, hval⟩ := hv
      dsimp only at he
      cases hmy : (rd y').mem with
      | none => simp [hmy] at he
      | some ys =>
        obtain ⟨vs, h1, h2, h3⟩ := mem_ok hvy hmy
        have hyl := h2.length
        simp only [hmy] at he
        split at he
        · rename_i hlen
          cases hg : st.get id with
          | none => simp [hg] at he
          | some b =>
            obtain ⟨q, hq, hH⟩ := hI.blk id b hg
            rw [hp] at hq
            obtain rfl : p = q := by simpa using hq
            cases b with
            | box cs =>
              obtain ⟨full, ty, hh, hcs⟩ := hH
              simp only [hg] at he
              split at he
              · rename_i hle
                obtain ⟨rfl, rfl, rfl⟩ : V.c .any = v ∧ [(id, Blk.box (cs.take off ++ ys ++ cs.drop (off + d.size)))] = u ∧ n = n' := by simpa using he
                have hl := hcs.length
                have hrun := storeVar_ok (off := off) (htt t d ht) hh h1 (by omega) h3 (by omega)
                have hb : HB M β (w.setRow p.1 (full.take off ++ vs ++ full.drop (off + d.size)).toArray) p (.box (cs.take off ++ ys ++ cs.drop (off + d.size))) :=
                  ⟨_, ty, setRow_heap w p.1 _ _ ty _ hh, ((hcs.take off).append h2).append (hcs.drop _)⟩
                refine OpStep.skip ?_ (hI.change hg rfl hp (grownBy_setRow w p.1 _) hb) (Mle.refl _) (Ble.refl _)
                simp only [execOp, ho]
                refine run_u _ ?_
                unfold Instr.storeAt
                simp only [hval, Instr.sureAddr, Sem.run_bind, Sem.run_pure, Result.andThen_ok, hrun]
              · cases he
            | arr e cs =>
              obtain ⟨full, ty, hh, htot, hcs⟩ := hH
              simp only [hg] at he
              split at he
              · rename_i hle
                cases hts : toTs st.get ys with
                | none => simp [hts] at he
                | some r =>
                  obtain ⟨ts, u1⟩ := r
                  simp only [hts] at he
                  split at he
                  · rename_i hnot
                    obtain ⟨rfl, rfl, rfl⟩ : V.c .any = v ∧ u1 ++ [(id, Blk.arr e (cs.take off ++ ts ++ cs.drop (off + d.size)))] = u ∧ n = n' := by simpa using he
                    obtain ⟨M', hM, hI', hfz, hT⟩ := toTs_ok (Fz.refl st) hI h2 hts
                    have hl := hcs.le
                    have htl := hT.length
                    have hrun := storeVar_ok (off := off) (htt t d ht) hh h1 (by omega) h3 (by omega)
                    have hg' : (putAll st u1).get id = some (.arr e cs) := by rw [putAll_ne u1 st id (by simpa using hnot)]; exact hg
                    have hall := hcs.mono hM
                    have hb : HB M' β (w.setRow p.1 (full.take off ++ vs ++ full.drop (off + d.size)).toArray) p (.arr e (cs.take off ++ ts ++ cs.drop (off + d.size))) :=
                      ⟨_, ty, setRow_heap w p.1 _ _ ty _ hh, by simp; omega, RTs.splice hall hT (by omega) (by omega)⟩
                    rw [putAll_append]
                    refine OpStep.skip ?_ (hI'.change hg' rfl hp (grownBy_setRow w p.1 _) hb) hM (Ble.refl _)
                    simp only [execOp, ho]
                    refine run_u _ ?_
                    unfold Instr.storeAt
                    simp only [hval, Instr.sureAddr, Sem.run_bind, Sem.run_pure, Result.andThen_ok, hrun]
                  · cases he
              · cases he
            | frz cs => simp [hg] at he
            | map _ _ _ => simp [hg] at he
            | gone => simp [hg] at he
        · cases he
    | tp cs => simp at he
    | t x => simp at he
    | own _ _ _ _ => simp at he
    | clo _ _ => simp at he
    | mp _ => simp at he
    | any => simp at he
  | agg _ => simp [hr] at he
  | tup _ => simp [hr] at he
end
end Go.Proofs.Sg
