/- The frame, part M: copy, clear, equal structs, maps. -/
import Derived.Test.YtcijgahloogooaaFrL
namespace Go.Proofs.Sg
open Go.RowKit

section
variable {P : Program} {tt : TT} {B : Fr} {w0 w : World} {M : Mem} {β : Bet} {st : Tr Blk} {n n' : Nat} {v : V} {u : List (Nat × Blk)} {o : Oper} {a : Act} {rd : Opd → V}

theorem op_copy (htt : TTok P tt) (hI : Inv B w0 M β st n w) (hrd : RD M β a rd) {c : Call} {t t' e : TypeId} {d de : TD} {x y : Operand} {x' y' : Opd} (ho : o.op = .call c) (hc : c.callee = .builtin .copy) (hts : c.argTypes.toList = [t, t']) (hxs : c.args.toList = [x, y]) (ht : tt t = some d)
    (hd : d.desc = .slice e) (hde : tt e = some de) (h0 : 0 < de.size) (hx : slimO x = some x') (hy : slimO y = some y') (he : evIns st.get n rd (.copy de.size x' y') = some (v, u, n')) : OpStep P B w0 M β (putAll st u) n' v o a w := by
  have hvx := hrd x x' hx
  have hvy := hrd y y' hy
  have ha : c.args = #[x, y] := by rw [← Array.toArray_toList (xs := c.args), hxs]
  have hat : c.argTypes = #[t, t'] := by rw [← Array.toArray_toList (xs := c.argTypes), hts]
  simp only [evIns] at he
  split at he
  · rename_i id e' off len hr
    rw [hr] at hvx
    obtain ⟨p, cp, hp, hxv, hlc, hcm, htot⟩ := hvx
    cases hsrc : srcOf st.get de.size (rd y') with
    | none => simp [hsrc] at he
    | some g =>
      obtain ⟨m, src⟩ := g
      simp only [hsrc] at he
      obtain ⟨hlen, hmm, A, cap, vs, hval, hT, hw⟩ := srcOf_ok hI h0 hvy hsrc
      have hvl : vs.length = m * de.size := by rw [hT.length]; exact hlen
      split at he
      · rename_i e2 cs hg
        split at he
        · rename_i hcnd
          simp only [Bool.and_eq_true, decide_eq_true_eq] at hcnd
          obtain ⟨⟨rfl, rfl⟩, hle⟩ := hcnd
          obtain ⟨rfl, rfl, rfl⟩ : V.int .i64 (min m len) = v ∧ [(id, Blk.arr de.size (cs.take off ++ src.take (min m len * de.size) ++ cs.drop (off + min m len * de.size)))] = u ∧ n = n' := by simpa using he
          obtain ⟨q, hq, full, ty, hh, hfl, hs⟩ := hI.blk id _ hg
          rw [hp] at hq
          obtain rfl : p = q := by simpa using hq
          have hsl := hs.le
          have hmn : min m len * de.size ≤ m * de.size := Nat.mul_le_mul_right _ (Nat.min_le_left _ _)
          have hml : min m len * de.size ≤ len * de.size := Nat.mul_le_mul_right _ (Nat.min_le_right _ _)
          have hfc : (Builtin.firstCells de.size (min m len) (.slice A m cap)).run P w = .ok (vs.take (min m len * de.size)).toArray w := by
            have h1 := run_firstCells (P := P) (w := w) (e := de.size) (A := A) (m := min m len) (cap := cap) (vs := vs.take (min m len * de.size)) (by simp; omega) (by
              rcases hw with ⟨h1, h2⟩ | ⟨h1, h2⟩ | ⟨b, off', full', ty', fr, h1, h2, h3⟩
              · exact .inl ⟨h1, by omega⟩
              · exact .inr (.inl ⟨by omega, by rw [h2]; simp⟩)
              · refine .inr (.inr ⟨b, off', full', ty', fr, h1, h2, ?_⟩)
                rw [h3, List.take_take, Nat.min_eq_left hmn])
            cases A <;> simpa [Builtin.firstCells] using h1
          have hT' : All2 (RT M) (vs.take (min m len * de.size)) (src.take (min m len * de.size)) := hT.take _
          have hone : ∀ x ∈ vs.take (min m len * de.size), x.oneCell' = true := RTs2.one hT'
          have hl1 : (vs.take (min m len * de.size)).length = min m len * de.size := by simp; omega
          have hst := run_storeCells_at (P := P) p.1 off ty (vs.take (min m len * de.size)) 0 full.toArray w hh (by simp; omega) hone
          simp only [Nat.add_zero, hl1] at hst
          have hb : HB M β (w.setRow p.1 (full.take off ++ vs.take (min m len * de.size) ++ full.drop (off + min m len * de.size)).toArray) p (.arr de.size (cs.take off ++ src.take (min m len * de.size) ++ cs.drop (off + min m len * de.size))) :=
            ⟨_, ty, setRow_heap w p.1 _ _ ty _ hh, by simp; omega, RTs.splice hs hT' (by simp; omega) (by omega)⟩
          refine OpStep.value (val := .int .i64 (min m len : Nat)) ?_ (hI.change hg rfl hp (grownBy_setRow w p.1 _) hb) (by rw [show ((min m len : Nat) : Int) = min (m : Int) (len : Int) by omega]; exact rv_mk rfl) (Mle.refl _) (Ble.refl _)
          simp only [execOp, ho, resolve, hc, Sem.run_bind, Sem.run_pure, Result.andThen_ok, invoke, ha, hat, builtin]
          simp [Builtin.copy_, (htt t d ht).run_und, hd, hxv, hval, Builtin.lenOf, (htt e de hde).run_size, hfc, hst, goInt]
        · cases he
      · cases he
  · cases he

theorem zeroCells_rep (z : List Value) (hz : 0 < z.length) (m : Nat) : (Builtin.zeroCells z.toArray m).toList = (List.replicate m z).flatten := by
  have := rep_get z hz m
  unfold Builtin.zeroCells
  simp only [List.size_toArray] at this ⊢
  rw [this]

theorem op_clear (htt : TTok P tt) (hI : Inv B w0 M β st n w) (hrd : RD M β a rd) {c : Call} {t e : TypeId} {d de : TD} {z : List Value} {x : Operand} {x' : Opd} (ho : o.op = .call c) (hc : c.callee = .builtin .clear) (hts : c.argTypes.toList = [t]) (hxs : c.args.toList = [x]) (ht : tt t = some d)
    (hd : d.desc = .slice e) (hde : tt e = some de) (hz : de.zero = some z) (h0 : 0 < de.size) (hx : slimO x = some x') (he : evIns st.get n rd (.clear de.size z x') = some (v, u, n')) : OpStep P B w0 M β (putAll st u) n' v o a w := by
  have hvx := hrd x x' hx
  have ha : c.args = #[x] := by rw [← Array.toArray_toList (xs := c.args), hxs]
  have hat : c.argTypes = #[t] := by rw [← Array.toArray_toList (xs := c.argTypes), hts]
  obtain ⟨zv, hzv, hcz⟩ := (htt e de hde).run_zero (w := w) hz
  obtain ⟨hzp, hzl⟩ := (htt e de hde).zero_plain hz
  simp only [evIns] at he
  split at he
  · rename_i id e' off len hr
    rw [hr] at hvx
    obtain ⟨p, cp, hp, hxv, hlc, hcm, htot⟩ := hvx
    split at he
    · rename_i e2 cs hg
      split at he
      · rename_i hcnd
        simp only [Bool.and_eq_true, decide_eq_true_eq] at hcnd
        obtain ⟨⟨rfl, rfl⟩, hle⟩ := hcnd
        obtain ⟨rfl, rfl, rfl⟩ : V.c .any = v ∧ [(id, Blk.arr de.size (cs.take off ++ (List.replicate len (z.map T.v)).flatten ++ cs.drop (off + len * de.size)))] = u ∧ n = n' := by simpa using he
        obtain ⟨q, hq, full, ty, hh, hfl, hs⟩ := hI.blk id _ hg
        rw [hp] at hq
        obtain rfl : p = q := by simpa using hq
        have hsl := hs.le
        have hT : All2 (RT M) ((List.replicate len z).flatten) ((List.replicate len (z.map T.v)).flatten) := all2_repT hzp len
        have hl1 : ((List.replicate len z).flatten).length = len * de.size := by rw [flat_rep, hzl]
        have hst := run_storeCells_at (P := P) p.1 off ty ((List.replicate len z).flatten) 0 full.toArray w hh (by simp only [List.size_toArray]; omega) (RTs2.one hT)
        simp only [Nat.add_zero, hl1] at hst
        have hb : HB M β (w.setRow p.1 (full.take off ++ (List.replicate len z).flatten ++ full.drop (off + len * de.size)).toArray) p (.arr de.size (cs.take off ++ (List.replicate len (z.map T.v)).flatten ++ cs.drop (off + len * de.size))) :=
          ⟨_, ty, setRow_heap w p.1 _ _ ty _ hh, by simp only [List.length_append, List.length_take, List.length_drop, hl1]; omega, RTs.splice hs hT (by rw [flat_rep]; simp [hzl]) (by omega)⟩
        have hI' := hI.change hg rfl hp (grownBy_setRow w p.1 _) hb
        by_cases hlen : len = 0
        · subst hlen
          -- nothing is cleared
          have hself : w.setRow p.1 (full.take off ++ (List.replicate 0 z).flatten ++ full.drop (off + 0 * de.size)).toArray = w := by
            have : (full.take off ++ (List.replicate 0 z).flatten ++ full.drop (off + 0 * de.size)) = full := by simp
            rw [this]
            exact setRow_self w p.1 _ ty _ hh
          rw [hself] at hI'
          refine OpStep.value (val := .tuple #[]) ?_ hI' trivial (Mle.refl _) (Ble.refl _)
          simp only [execOp, ho, resolve, hc, Sem.run_bind, Sem.run_pure, Result.andThen_ok, invoke, ha, hat, builtin]
          simp [Builtin.clear_, (htt t d ht).run_und, hd, hxv]
        · refine OpStep.value (val := .tuple #[]) ?_ hI' trivial (Mle.refl _) (Ble.refl _)
          simp only [execOp, ho, resolve, hc, Sem.run_bind, Sem.run_pure, Result.andThen_ok, invoke, ha, hat, builtin]
          have hzc := zeroCells_rep z (by omega) len
          have hbody : (Builtin.clear_ #[t] o.type #[a.eval x]).run P w = .ok (.tuple #[]) (w.setRow p.1 (full.take off ++ (List.replicate len z).flatten ++ full.drop (off + len * de.size)).toArray) := by
            unfold Builtin.clear_
            obtain ⟨l, rfl⟩ : ∃ l, len = l + 1 := ⟨len - 1, by omega⟩
            simp [(htt t d ht).run_und, hd, hxv, hzv, hcz, hzc, hst]
          simp [hbody]
      · cases he
    · cases he
  · cases he

/-! ### Equal structs -/
theorem eqv_run {t : TypeId} {d : TD} (htt : TTok P tt) (ht : tt t = some d) {x y : Value} {b : Bool} (h : eqv x y = some b)
    (hk : ∀ k m, x = .int k m → ∃ k', d.desc = .int k') (hb : ∀ c, x = .bool c → d.desc = .bool) (hs : ∀ s, x = .string s → d.desc = .string) (q : Nat) : (Op.equalIn (q + 1) t x y).run P w = .ok b w := by
  unfold eqv at h
  split at h
  · rename_i k m k' m'
    split at h
    · rename_i hkk
      subst hkk
      obtain rfl : (m == m') = b := by simpa using h
      obtain ⟨k', hd'⟩ := hk k m rfl
      exact run_equalIn_int (P := P) w q t k k' m m' (by rw [(htt t d ht).und, hd'])
    · cases h
  · rename_i c c'
    obtain rfl : (c == c') = b := by simpa using h
    exact equalIn_bool (by rw [(htt t d ht).und, hb c rfl]) c c' q
  · rename_i s s'
    obtain rfl : (s.toList == s'.toList) = b := by simpa using h
    exact run_equalIn_string (P := P) w q t s s' (by rw [(htt t d ht).und, hs s rfl])
  · cases h
end
end Go.Proofs.Sg
