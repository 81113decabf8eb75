/- The frame, part J: places, parts, lengths, cuts. -/
import Derived.Test.YtcijgahloogooaaFrI
namespace Go.Proofs.Sg
open Go.RowKit

section
variable {P : Program} {tt : TT} {B : Fr} {w0 w : World} {M : Mem} {β : Bet} {st : Tr Blk} {n n' : Nat} {v : V} {u : List (Nat × Blk)} {o : Oper} {a : Act} {rd : Opd → V}

theorem op_fld (htt : TTok P tt) (hI : Inv B w0 M β st n w) (hrd : RD M β a rd) {t : TypeId} {d df : TD} {x : Operand} {y : Opd} {i : Nat} {fs : Array Field} {f : Field} (ho : o.op = .fieldAddr t x i) (ht : tt t = some d) (hd : d.desc = .struct fs)
    (hf : fs[i]? = some f) (hdf : tt f.type = some df) (h0 : 0 < df.size) (hx : slimO x = some y) (he : evIns st.get n rd (.fld f.offset y) = some (v, u, n')) : OpStep P B w0 M β (putAll st u) n' v o a w := by
  have hv := hrd x y hx
  have hrun : ∀ (b off : Nat), a.eval x = .pointer (some ⟨b, off, none⟩) → (execOp a.eval o).run P w = .ok (.value (.pointer (some ⟨b, off + f.offset, none⟩))) w := fun b off hval => by
    simp only [execOp, ho]
    refine run_v _ ?_
    unfold Instr.fieldAt fieldPlace
    simp only [hval, Instr.sureAddr, Sem.run_bind, Sem.run_pure, Result.andThen_ok, (htt t d ht).run_und, hd, hf, (htt f.type df hdf).run_size]
    rw [if_neg (by omega)]
    simp [Addr.add_mid']
  simp only [evIns] at he
  cases hr : rd y with
  | c c =>
    rw [hr] at he hv
    cases c with
    | ptr id off =>
      obtain ⟨p, hp, hval⟩ := hv
      obtain ⟨rfl, rfl, rfl⟩ : V.c (.ptr id (off + f.offset)) = v ∧ [] = u ∧ n = n' := by simpa using he
      exact OpStep.pure (hrun _ _ hval) hI ⟨p, hp, rfl⟩
    | tp cs =>
      obtain ⟨b, off, mc, hval, hm, hs⟩ := hv
      obtain ⟨rfl, rfl, rfl⟩ : V.c (.tp (cs.drop f.offset)) = v ∧ [] = u ∧ n = n' := by simpa using he
      refine OpStep.pure (hrun _ _ hval) hI ⟨b, off + f.offset, mc, rfl, hm, ?_⟩
      rw [← List.drop_drop]
      exact hs.drop _
    | t x => simp at he
    | own _ _ _ _ => simp at he
    | clo _ _ => simp at he
    | mp _ => simp at he
    | any => simp at he
  | agg _ => simp [hr] at he
  | tup _ => simp [hr] at he

/-- A part of a struct's value. -/
theorem part_ok (htt : TTok P tt) {t : TypeId} {d : TD} (ht : tt t = some d) {vs : List Value} {cs : List C} {off : Nat} {v : V} (hc : All2 (RC M β) vs cs) (hm : mk d.agg ((cs.drop off).take d.size) = some v) :
    ∃ val, (part t vs.toArray off).run P w = .ok val w ∧ RV M β val v := by
  obtain ⟨h1, h2⟩ := mk_ok hm ((hc.drop off).take d.size)
  refine ⟨_, ?_, h1⟩
  unfold part
  simp only [Sem.run_bind, (htt t d ht).run_isAgg, Result.andThen_ok]
  cases ha : d.agg with
  | true => simp [(htt t d ht).run_size, List.extract_eq_take_drop]
  | false =>
    obtain ⟨x, hx⟩ := h2 ha
    have hsz : d.size ≠ 0 := by intro h0; rw [h0] at hx; simp at hx
    have : vs[off]? = some x := by
      have : ((vs.drop off).take d.size)[0]? = some x := by rw [hx]; rfl
      rw [List.getElem?_take, if_pos (by omega)] at this
      simpa using this
    simp only [Bool.false_eq_true, if_false, List.getElem?_toArray, this, hx, List.headD_cons, Sem.run_pure]

theorem op_getf (htt : TTok P tt) (hI : Inv B w0 M β st n w) (hrd : RD M β a rd) {t : TypeId} {d df : TD} {x : Operand} {y : Opd} {i : Nat} {fs : Array Field} {f : Field} (ho : o.op = .field t x i) (ht : tt t = some d) (hd : d.desc = .struct fs)
    (hf : fs[i]? = some f) (hdf : tt f.type = some df) (hx : slimO x = some y) (he : evIns st.get n rd (.getf f.offset df.size df.agg y) = some (v, u, n')) : OpStep P B w0 M β (putAll st u) n' v o a w := by
  have hv := hrd x y hx
  simp only [evIns] at he
  cases hr : rd y with
  | agg cs =>
    rw [hr] at he hv
    obtain ⟨vs, hval, hc⟩ := hv
    dsimp only at he
    split at he
    · cases hm : mk df.agg ((cs.drop f.offset).take df.size) with
      | none => rw [hm] at he; cases he
      | some v' =>
        rw [hm] at he
        obtain ⟨rfl, rfl, rfl⟩ : v' = v ∧ [] = u ∧ n = n' := by simpa using he
        obtain ⟨val, h1, h2⟩ := part_ok (w := w) htt hdf hc hm
        refine OpStep.pure (val := val) ?_ hI h2
        simp only [execOp, ho]
        refine run_v _ ?_
        unfold Instr.field
        simp [(htt t d ht).run_und, hd, hf, hval, asAgg, h1]
    · cases he
  | c _ => simp [hr] at he
  | tup _ => simp [hr] at he

theorem int_ok {val : Value} {X : V} {i : Int} (hr : RV M β val X) (h : intOf X = some i) : ∃ k, val = .int k i := by
  unfold intOf at h
  split at h
  · rename_i k m
    obtain rfl : m = i := by simpa using h
    exact ⟨k, (rv_v hr).1⟩
  · cases h

theorem op_idx (htt : TTok P tt) (hI : Inv B w0 M β st n w) (hrd : RD M β a rd) {t e : TypeId} {d de : TD} {x i : Operand} {x' i' : Opd} (ho : o.op = .indexAddr t x i) (ht : tt t = some d) (hd : d.desc = .slice e) (hde : tt e = some de)
    (h0 : 0 < de.size) (hx : slimO x = some x') (hi : slimO i = some i') (he : evIns st.get n rd (.idx de.size x' i') = some (v, u, n')) : OpStep P B w0 M β (putAll st u) n' v o a w := by
  have hv := hrd x x' hx
  have hvi := hrd i i' hi
  simp only [evIns] at he
  cases hin : intOf (rd i') with
  | none => simp [hin] at he
  | some j =>
    obtain ⟨k, hk⟩ := int_ok hvi hin
    simp only [hin] at he
    have hrun : ∀ (b off len cap : Nat), a.eval x = .slice (some ⟨b, off, none⟩) len cap → 0 ≤ j → j < len → (execOp a.eval o).run P w = .ok (.value (.pointer (some ⟨b, off + j.toNat * de.size, none⟩))) w := fun b off len cap hval h1 h2 => by
      simp only [execOp, ho]
      refine run_v _ ?_
      unfold Instr.indexAt
      simp only [hval, hk, asIntOf, Sem.run_bind, Sem.run_pure, Result.andThen_ok, (htt t d ht).run_und, hd, Sem.run_ite]
      rw [if_pos ⟨h1, h2⟩]
      simp [(htt e de hde).run_size, Addr.add_mid']
    cases hr : rd x' with
    | c c =>
      rw [hr] at he hv
      cases c with
      | t tr =>
        cases tr with
        | sl m cs =>
          have hv' : RT M (a.eval x) (.sl m cs) := hv
          unfold RT at hv'
          obtain ⟨A, cap, hval, hmc, hcm, hcs⟩ := hv'
          dsimp only at he
          split at he
          · rename_i hc
            simp only [Bool.and_eq_true, decide_eq_true_eq] at hc
            obtain ⟨⟨⟨h1, h2⟩, h3⟩, _⟩ := hc
            obtain ⟨rfl, rfl, rfl⟩ : V.c (.tp (cs.drop (j.toNat * de.size))) = v ∧ [] = u ∧ n = n' := by simpa using he
            have hne : cs ≠ [] := by
              intro e0
              rw [e0] at h3
              have : 0 < (j.toNat + 1) * de.size := Nat.mul_pos (by omega) h0
              simp at h3
              omega
            rcases hcs with hcs | ⟨b, off, mc, rfl, hm, hs⟩
            · exact absurd hcs.1 hne
            · refine OpStep.pure (hrun b off m cap hval h1 h2) hI ⟨b, _, mc, rfl, hm, ?_⟩
              rw [← List.drop_drop]
              exact hs.drop _
          · cases he
        | v _ => simp at he
        | fn _ _ => simp at he
      | own id e' off len =>
        obtain ⟨p, cap, hp, hval, hlc, hcm, htot⟩ := hv
        dsimp only at he
        split at he
        · rename_i hc
          simp only [Bool.and_eq_true, decide_eq_true_eq] at hc
          obtain ⟨⟨h1, h2⟩, rfl⟩ := hc
          obtain ⟨rfl, rfl, rfl⟩ : V.c (.ptr id (off + j.toNat * de.size)) = v ∧ [] = u ∧ n = n' := by simpa using he
          exact OpStep.pure (hrun p.1 off len cap hval h1 h2) hI ⟨p, hp, rfl⟩
        · cases he
      | ptr _ _ => simp at he
      | tp _ => simp at he
      | clo _ _ => simp at he
      | mp _ => simp at he
      | any => simp at he
    | agg _ => simp [hr] at he
    | tup _ => simp [hr] at he

theorem op_idxA (htt : TTok P tt) (hI : Inv B w0 M β st n w) (hrd : RD M β a rd) {t e : TypeId} {d de : TD} {x i : Operand} {x' i' : Opd} {m : Nat} (ho : o.op = .indexAddr t x i) (ht : tt t = some d) (hd : d.desc = .array m e) (hde : tt e = some de)
    (hx : slimO x = some x') (hi : slimO i = some i') (he : evIns st.get n rd (.idxA m de.size x' i') = some (v, u, n')) : OpStep P B w0 M β (putAll st u) n' v o a w := by
  have hv := hrd x x' hx
  have hvi := hrd i i' hi
  simp only [evIns] at he
  cases hin : intOf (rd i') with
  | none => simp [hin] at he
  | some j =>
    obtain ⟨k, hk⟩ := int_ok hvi hin
    simp only [hin] at he
    cases hr : rd x' with
    | c c =>
      rw [hr] at he hv
      cases c with
      | ptr id off =>
        obtain ⟨p, hp, hval⟩ := hv
        dsimp only at he
        split at he
        · rename_i hc
          simp only [Bool.and_eq_true, decide_eq_true_eq] at hc
          obtain ⟨h1, h2⟩ := hc
          obtain ⟨rfl, rfl, rfl⟩ : V.c (.ptr id (off + j.toNat * de.size)) = v ∧ [] = u ∧ n = n' := by simpa using he
          refine OpStep.pure (val := .pointer (some ⟨p.1, off + j.toNat * de.size, none⟩)) ?_ hI ⟨p, hp, rfl⟩
          simp only [execOp, ho]
          refine run_v _ ?_
          unfold Instr.indexAt
          simp only [hval, hk, asIntOf, Sem.run_bind, Sem.run_pure, Result.andThen_ok, (htt t d ht).run_und, hd, Instr.sureAddr, Sem.run_ite]
          rw [if_pos ⟨h1, h2⟩]
          simp [(htt e de hde).run_size, Addr.add_mid']
        · cases he
      | t _ => simp at he
      | own _ _ _ _ => simp at he
      | tp _ => simp at he
      | clo _ _ => simp at he
      | mp _ => simp at he
      | any => simp at he
    | agg _ => simp [hr] at he
    | tup _ => simp [hr] at he

theorem op_at (htt : TTok P tt) (hI : Inv B w0 M β st n w) (hrd : RD M β a rd) {t e : TypeId} {d de : TD} {x i : Operand} {x' i' : Opd} {m : Nat} (ho : o.op = .index t x i) (ht : tt t = some d) (hd : d.desc = .array m e) (hde : tt e = some de)
    (hx : slimO x = some x') (hi : slimO i = some i') (he : evIns st.get n rd (.at_ m de.size de.agg x' i') = some (v, u, n')) : OpStep P B w0 M β (putAll st u) n' v o a w := by
  have hv := hrd x x' hx
  have hvi := hrd i i' hi
  simp only [evIns] at he
  cases hin : intOf (rd i') with
  | none => simp [hin] at he
  | some j =>
    obtain ⟨k, hk⟩ := int_ok hvi hin
    simp only [hin] at he
    cases hr : rd x' with
    | agg cs =>
      rw [hr] at he hv
      obtain ⟨vs, hval, hc⟩ := hv
      dsimp only at he
      split at he
      · rename_i hcnd
        simp only [Bool.and_eq_true, decide_eq_true_eq] at hcnd
        obtain ⟨⟨h1, h2⟩, _⟩ := hcnd
        cases hm : mk de.agg ((cs.drop (j.toNat * de.size)).take de.size) with
        | none => rw [hm] at he; cases he
        | some v' =>
          rw [hm] at he
          obtain ⟨rfl, rfl, rfl⟩ : v' = v ∧ [] = u ∧ n = n' := by simpa using he
          obtain ⟨val, h4, h5⟩ := part_ok (w := w) htt hde hc hm
          refine OpStep.pure (val := val) ?_ hI h5
          simp only [execOp, ho]
          refine run_v _ ?_
          unfold Instr.index
          simp only [hval, hk, asIntOf, Sem.run_bind, Sem.run_pure, Result.andThen_ok, (htt t d ht).run_und, hd, Sem.run_ite]
          rw [if_pos ⟨h1, h2⟩]
          simp [(htt e de hde).run_size, h4]
      · cases he
    | c _ => simp [hr] at he
    | tup _ => simp [hr] at he

theorem op_ats (htt : TTok P tt) (hI : Inv B w0 M β st n w) (hrd : RD M β a rd) {t : TypeId} {d : TD} {x i : Operand} {x' i' : Opd} (ho : o.op = .index t x i) (ht : tt t = some d) (hd : d.desc = .string)
    (hx : slimO x = some x') (hi : slimO i = some i') (he : evIns st.get n rd (.ats x' i') = some (v, u, n')) : OpStep P B w0 M β (putAll st u) n' v o a w := by
  have hv := hrd x x' hx
  have hvi := hrd i i' hi
  simp only [evIns] at he
  cases hin : intOf (rd i') with
  | none => simp [hin] at he
  | some j =>
    obtain ⟨k, hk⟩ := int_ok hvi hin
    simp only [hin] at he
    split at he
    · rename_i s hr
      rw [hr] at hv
      obtain ⟨hval, _⟩ := rv_v hv
      split at he
      · rename_i h0
        cases hb : s.data.toList[j.toNat]? with
        | none => rw [hb] at he; cases he
        | some b =>
          rw [hb] at he
          obtain ⟨rfl, rfl, rfl⟩ : V.int .u8 b.toNat = v ∧ [] = u ∧ n = n' := by simpa using he
          have hb' : s[j.toNat]? = some b := by
            obtain ⟨h1, h2⟩ := List.getElem?_eq_some_iff.1 hb
            have hlt : j.toNat < s.size := by simpa using h1
            rw [getElem?_pos s j.toNat hlt]
            rw [← h2]
            rfl
          refine OpStep.pure (val := .int .u8 b.toNat) ?_ hI (rv_mk rfl)
          simp only [execOp, ho]
          refine run_v _ ?_
          unfold Instr.index
          simp [hval, hk, asIntOf, (htt t d ht).run_und, hd, h0, hb']
      · cases he
    · cases he

theorem op_ext (hI : Inv B w0 M β st n w) (hrd : RD M β a rd) {x : Operand} {y : Opd} {i : Nat} (ho : o.op = .extract x i) (hx : slimO x = some y) (he : evIns st.get n rd (.ext y i) = some (v, u, n')) : OpStep P B w0 M β (putAll st u) n' v o a w := by
  have hv := hrd x y hx
  simp only [evIns] at he
  cases hr : rd y with
  | tup xs =>
    rw [hr] at he hv
    obtain ⟨vs, hval, hc⟩ := hv
    dsimp only at he
    cases hi : xs[i]? with
    | none => simp [hi] at he
    | some g =>
      obtain ⟨agg, cs⟩ := g
      obtain ⟨val, h1, h2⟩ := hc.get i _ hi
      simp only [hi] at he
      cases hm : mk agg cs with
      | none => rw [hm] at he; cases he
      | some v' =>
        rw [hm] at he
        obtain ⟨rfl, rfl, rfl⟩ : v' = v ∧ [] = u ∧ n = n' := by simpa using he
        refine OpStep.pure (val := val) ?_ hI ?_
        · simp only [execOp, ho]
          refine run_v _ ?_
          unfold Instr.extract
          simp [hval, h1]
        · unfold RG at h2
          unfold mk at hm
          cases agg with
          | true =>
            obtain rfl : V.agg cs = v' := by simpa using hm
            exact h2
          | false =>
            obtain ⟨c, hcs, hrc⟩ := h2
            dsimp only at hcs
            subst hcs
            obtain rfl : V.c c = v' := by simpa using hm
            exact hrc
  | c _ => simp [hr] at he
  | agg _ => simp [hr] at he

theorem lenOf_ok {val : Value} {X : V} {m : Nat} (hr : RV M β val X) (h : lenOf X = some m) : ∃ A cap, val = .slice A m cap ∧ m ≤ cap ∧ cap ≤ maxLen := by
  unfold lenOf at h
  split at h
  · rename_i k cs
    obtain rfl : k = m := by simpa using h
    have h' : RT M val (.sl k cs) := hr
    unfold RT at h'
    obtain ⟨A, cap, h1, h2, h3, _⟩ := h'
    exact ⟨A, cap, h1, h2, h3⟩
  · obtain rfl : 0 = m := by simpa using h
    exact ⟨none, 0, (rv_v hr).1, Nat.le_refl _, by simp [maxLen]⟩
  · rename_i id e off len
    obtain rfl : len = m := by simpa using h
    obtain ⟨p, cap, _, h1, h2, h3, _⟩ := hr
    exact ⟨_, cap, h1, h2, h3⟩
  · cases h

theorem op_len (htt : TTok P tt) (hI : Inv B w0 M β st n w) (hrd : RD M β a rd) {c : Call} {t : TypeId} {ts : List TypeId} {d : TD} {x : Operand} {y : Opd} {str : Bool} (ho : o.op = .call c) (hc : c.callee = .builtin .len) (hts : c.argTypes.toList = t :: ts) (hxs : c.args.toList = [x]) (ht : tt t = some d)
    (hd : if str then d.desc = .string else ∃ e, d.desc = .slice e) (hx : slimO x = some y) (he : evIns st.get n rd (.len str y) = some (v, u, n')) : OpStep P B w0 M β (putAll st u) n' v o a w := by
  have hv := hrd x y hx
  simp only [evIns] at he
  have ha : c.args = #[x] := by rw [← Array.toArray_toList (xs := c.args), hxs]
  have hat : c.argTypes[0]? = some t := by rw [← Array.toArray_toList (xs := c.argTypes), hts]; rfl
  cases str with
  | true =>
    simp only [if_true] at he hd
    split at he
    · rename_i s hr
      rw [hr] at hv
      obtain ⟨hval, _⟩ := rv_v hv
      obtain ⟨rfl, rfl, rfl⟩ : V.int .i64 s.size = v ∧ [] = u ∧ n = n' := by simpa using he
      refine OpStep.pure (val := .int .i64 s.size) ?_ hI (rv_mk rfl)
      simp only [execOp, ho, resolve, hc, Sem.run_bind, Sem.run_pure, Result.andThen_ok, invoke, builtin, Builtin.len_, ha]
      simp [hat, (htt t d ht).run_und, hd, hval, goInt]
    · cases he
  | false =>
    simp only [Bool.false_eq_true, if_false] at he hd
    cases hl : lenOf (rd y) with
    | none => rw [hl] at he; cases he
    | some m =>
      rw [hl] at he
      obtain ⟨rfl, rfl, rfl⟩ : V.int .i64 m = v ∧ [] = u ∧ n = n' := by simpa using he
      obtain ⟨A, cap, hval, _⟩ := lenOf_ok hv hl
      obtain ⟨e, hd⟩ := hd
      refine OpStep.pure (val := .int .i64 m) ?_ hI (rv_mk rfl)
      simp only [execOp, ho, resolve, hc, Sem.run_bind, Sem.run_pure, Result.andThen_ok, invoke, builtin, Builtin.len_, ha]
      simp [hat, (htt t d ht).run_und, hd, hval, goInt]

/-- An optional bound. -/
theorem bound_ok {lo : Option Operand} {lo' : Option Opd} (hrd : RD M β a rd) (hlo : slimOO lo = some lo') {dflt i : Int} (h : bnd rd dflt lo' = some i) :
    (lo = none ∧ lo' = none ∧ i = dflt) ∨ ∃ x k, lo = some x ∧ a.eval x = .int k i := by
  cases lo with
  | none =>
    obtain rfl : none = lo' := by simpa [slimOO] using hlo
    exact .inl ⟨rfl, rfl, by simpa [bnd, eq_comm] using h⟩
  | some x =>
    cases hx : slimO x with
    | none => simp [slimOO, hx] at hlo
    | some y =>
      obtain rfl : some y = lo' := by simpa [slimOO, hx] using hlo
      obtain ⟨k, hk⟩ := int_ok (hrd x y hx) h
      exact .inr ⟨x, k, rfl, hk⟩

theorem op_slc (htt : TTok P tt) (hI : Inv B w0 M β st n w) (hrd : RD M β a rd) {t e : TypeId} {d de : TD} {x : Operand} {x' : Opd} {lo hi : Option Operand} {lo' hi' : Option Opd} (ho : o.op = .slice t x lo hi none) (ht : tt t = some d) (hd : d.desc = .slice e) (hde : tt e = some de)
    (hx : slimO x = some x') (hlo : slimOO lo = some lo') (hhi : slimOO hi = some hi') (he : evIns st.get n rd (.slc de.size x' lo' hi') = some (v, u, n')) : OpStep P B w0 M β (putAll st u) n' v o a w := by
  have hv := hrd x x' hx
  simp only [evIns] at he
  cases hl : lenOf (rd x') with
  | none => simp [hl] at he
  | some m =>
    simp only [hl] at he
    split at he
    · rename_i l h hL hH
      split at he
      · rename_i hc
        simp only [Bool.and_eq_true, decide_eq_true_eq] at hc
        obtain ⟨⟨h1, h2⟩, h3⟩ := hc
        obtain ⟨A, cap, hval, hmc, hcm⟩ := lenOf_ok hv hl
        -- the cut itself
        have hrun : (execOp a.eval o).run P w = .ok (.value (.slice (if cap = l.toNat then A else A.map (·.add (l.toNat * de.size))) (h - l).toNat (cap - l.toNat))) w := by
          simp only [execOp, ho]
          refine run_v _ ?_
          unfold Instr.sliceAt
          simp only [Sem.run_bind, (htt t d ht).run_und, hd, Result.andThen_ok]
          unfold Instr.slice
          simp only [Sem.run_bind, (htt t d ht).run_und, hd, Result.andThen_ok, hval, Instr.sliceBounds, Option.map_none, Sem.run_pure]
          have hb1 : ∀ (k : IntKind) (y : Nat) (code : BoundsCode) (i : Int), 0 ≤ i → i ≤ y → (Instr.sliceBound (.int k i) y code).run P w = .ok i.toNat w := fun k y code i g1 g2 => by
            simp [Instr.sliceBound, asIntOf, g1, g2]
          have hsub : h.toNat - l.toNat = (h - l).toNat := by omega
          rcases bound_ok hrd hhi hH with ⟨rfl, _, rfl⟩ | ⟨xh, kh, rfl, hxh⟩
          · rcases bound_ok hrd hlo hL with ⟨rfl, _, rfl⟩ | ⟨xl, kl, rfl, hxl⟩
            · simp [(htt e de hde).run_size]
            · simp only [Option.map_some, Option.map_none, Sem.run_bind, Sem.run_pure, Result.andThen_ok, hxl, Option.isSome_none, Bool.false_eq_true, if_false]
              rw [hb1 kl m _ l h1 (by omega)]
              simp only [Result.andThen_ok, (htt e de hde).run_size]
              have : m - l.toNat = ((m : Int) - l).toNat := by omega
              rw [this]
          · rcases bound_ok hrd hlo hL with ⟨rfl, _, rfl⟩ | ⟨xl, kl, rfl, hxl⟩
            · simp only [Option.map_some, Option.map_none, Sem.run_bind, Sem.run_pure, Result.andThen_ok, hxh, if_true]
              rw [hb1 kh cap _ h (by omega) (by omega)]
              simp [(htt e de hde).run_size]
            · simp only [Option.map_some, Sem.run_bind, Sem.run_pure, hxh, hxl, Option.isSome_none, Bool.false_eq_true, if_false, if_true]
              rw [hb1 kh cap _ h (by omega) (by omega)]
              simp only [Result.andThen_ok]
              rw [hb1 kl h.toNat _ l h1 (by omega)]
              simp only [Result.andThen_ok, (htt e de hde).run_size, hsub]
        split at he
        · rename_i k cs hr
          split at he
          · rename_i hle
            obtain ⟨rfl, rfl, rfl⟩ : V.c (.t (.sl (h - l).toNat ((cs.drop (l.toNat * de.size)).take ((h - l).toNat * de.size)))) = v ∧ [] = u ∧ n = n' := by simpa using he
            rw [hr] at hv
            have hv' : RT M (a.eval x) (.sl k cs) := hv
            unfold RT at hv'
            obtain ⟨A', cap', hval', hmc', hcm', hcs⟩ := hv'
            rw [hval] at hval'
            obtain ⟨rfl, rfl, rfl⟩ : A = A' ∧ m = k ∧ cap = cap' := by simpa using hval'
            refine OpStep.pure hrun hI ?_
            show RT M _ (.sl _ _)
            unfold RT
            refine ⟨_, _, rfl, by omega, by omega, ?_⟩
            by_cases hz : (cs.drop (l.toNat * de.size)).take ((h - l).toNat * de.size) = []
            · refine .inl ⟨hz, ?_⟩
              have hA : A.isSome = true := by
                rcases hcs with hcs | ⟨b, off, mc, rfl, _, _⟩
                · exact hcs.2
                · rfl
              split
              · exact hA
              · simpa using hA
            · right
              have hpos : 0 < (h - l).toNat := by
                rcases Nat.eq_zero_or_pos (h - l).toNat with h0 | h0
                · rw [h0] at hz; simp at hz
                · exact h0
              rcases hcs with hcs | ⟨b, off, mc, rfl, hm, hs⟩
              · rw [hcs.1] at hz; simp at hz
              · refine ⟨b, off + l.toNat * de.size, mc, ?_, hm, ?_⟩
                · rw [if_neg (by omega)]
                  simp [Addr.add_mid']
                · rw [← List.drop_drop]
                  exact (hs.drop _).take _
          · cases he
        · rename_i hr
          obtain ⟨rfl, rfl, rfl⟩ : rd x' = v ∧ [] = u ∧ n = n' := by simpa using he
          rw [hr] at hv hl
          obtain ⟨hval', _⟩ := rv_v hv
          obtain rfl : 0 = m := by simpa [lenOf] using hl
          rw [hval'] at hval
          obtain ⟨rfl, rfl⟩ : none = A ∧ 0 = cap := by simpa using hval
          obtain rfl : l = 0 := by omega
          obtain rfl : h = 0 := by omega
          refine OpStep.pure hrun hI ?_
          rw [hr]
          exact rv_mk rfl
        · rename_i id e' off len hr
          rw [hr] at hv hl
          obtain ⟨p, cap', hp, hval', hlc, hcm', htot⟩ := hv
          obtain rfl : len = m := by simpa [lenOf] using hl
          rw [hval'] at hval
          obtain ⟨rfl, rfl⟩ : some (⟨p.1, off, none⟩ : Addr) = A ∧ cap' = cap := by simpa using hval
          split at he
          · rename_i hee
            subst hee
            split at he
            · rename_i hlh
              subst hlh
              obtain ⟨rfl, rfl, rfl⟩ : V.c (.t (.sl 0 [])) = v ∧ [] = u ∧ n = n' := by simpa using he
              refine OpStep.pure hrun hI ?_
              show RT M _ (.sl _ _)
              unfold RT
              rw [show (l - l).toNat = 0 by omega]
              exact ⟨_, cap' - l.toNat, rfl, by omega, by omega, .inl ⟨rfl, by split <;> rfl⟩⟩
            · rename_i hlh
              obtain ⟨rfl, rfl, rfl⟩ : V.c (.own id de.size (off + l.toNat * de.size) (h - l).toNat) = v ∧ [] = u ∧ n = n' := by simpa using he
              refine OpStep.pure hrun hI ⟨p, cap' - l.toNat, hp, ?_, by omega, by omega, ?_⟩
              · rw [if_neg (by omega)]
                simp [Addr.add_mid']
              · rw [← htot, Nat.add_assoc, ← Nat.add_mul]
                congr 2
                omega
          · cases he
        · cases he
      · cases he
    · cases he
end
end Go.Proofs.Sg
