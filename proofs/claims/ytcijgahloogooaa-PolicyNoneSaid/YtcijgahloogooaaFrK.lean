/- The frame, part K: equality, conversions, functions, new slices. -/
import Derived.Test.YtcijgahloogooaaFrJ
import Derived.Laws.StructEq
import Derived.Laws.BytesArg
namespace Go.Proofs.Sg
open Go.RowKit

section
variable {P : Program} {tt : TT} {B : Fr} {w0 w : World} {M : Mem} {β : Bet} {st : Tr Blk} {n n' : Nat} {v : V} {u : List (Nat × Blk)} {o : Oper} {a : Act} {rd : Opd → V}

theorem wrap64_id {x : Int} (h0 : 0 ≤ x) (h1 : x < 9223372036854775808) : IntKind.i64.wrap x = x := by
  have hm : x % (2 ^ IntKind.i64.bits : Int) = x := Int.emod_eq_of_lt h0 (by show x < 18446744073709551616; omega)
  unfold IntKind.wrap
  simp only [hm]
  rw [if_neg]
  simp [IntKind.signed, IntKind.bits]
  omega

theorem run_guard_plain {o : BinOp} {t : TypeId} {x y : Operand} {p q : Value} (hp : p.oneCell' = true) (hn : p ≠ .nilIface ∨ q ≠ .nilIface) : (eqGuard o t x y p q).run P w = .ok () w := by
  unfold eqGuard
  cases o <;> simp <;> (cases p <;> cases q <;> simp_all [Value.oneCell'])

theorem op_bin (hI : Inv B w0 M β st n w) (hrd : RD M β a rd) {b : BinOp} {t ty : TypeId} {x y : Operand} {x' y' : Opd} (ho : o.op = .binOp b t x y ty) (hx : slimO x = some x') (hy : slimO y = some y')
    (he : evIns st.get n rd (.bin b x' y') = some (v, u, n')) : OpStep P B w0 M β (putAll st u) n' v o a w := by
  have hvx := hrd x x' hx
  have hvy := hrd y y' hy
  simp only [evIns] at he
  split at he
  · rename_i p q h1 h2
    rw [h1] at hvx
    rw [h2] at hvy
    obtain ⟨hp, hpp⟩ := rv_v hvx
    obtain ⟨hq, hqp⟩ := rv_v hvy
    cases hb : bin1 b p q with
    | none => simp [hb] at he
    | some r =>
      obtain ⟨rfl, rfl, rfl⟩ : V.p r = v ∧ [] = u ∧ n = n' := by simpa [hb] using he
      obtain ⟨hr, hrp⟩ := bin1_ok (P := P) (w := w) (t := t) hb
      refine OpStep.pure (val := r) ?_ hI (rv_mk hrp)
      have hg : (eqGuard b t x y p q).run P w = .ok () w := run_guard_plain (plain_one hpp) (by
        unfold bin1 at hb
        split at hb
        · exact .inl (by simp)
        · exact .inl (by simp)
        · cases hb)
      simp only [execOp, ho, hp, hq]
      refine run_v _ ?_
      simp only [Sem.run_bind, hg, Result.andThen_ok, hr]
  · cases he

theorem op_beq (htt : TTok P tt) (hI : Inv B w0 M β st n w) (hrd : RD M β a rd) {neg : Bool} {t ty : TypeId} {d : TD} {x y : Operand} {x' y' : Opd} (ho : o.op = .binOp (if neg then .neq else .eql) t x y ty) (ht : tt t = some d) (hd : d.desc = .bool) (hx : slimO x = some x') (hy : slimO y = some y')
    (he : evIns st.get n rd (.beq neg x' y') = some (v, u, n')) : OpStep P B w0 M β (putAll st u) n' v o a w := by
  have hvx := hrd x x' hx
  have hvy := hrd y y' hy
  have hu : P.underlying t = some .bool := by rw [(htt t d ht).und, hd]
  simp only [evIns] at he
  split at he
  · rename_i p q h1 h2
    rw [h1] at hvx
    rw [h2] at hvy
    obtain ⟨hp, _⟩ := rv_v hvx
    obtain ⟨hq, _⟩ := rv_v hvy
    obtain ⟨rfl, rfl, rfl⟩ : V.bool (if neg then !(p == q) else p == q) = v ∧ [] = u ∧ n = n' := by simpa using he
    refine OpStep.pure (val := .bool (if neg then !(p == q) else p == q)) ?_ hI (rv_mk rfl)
    have hg : (eqGuard (if neg then .neq else .eql) t x y (.bool p) (.bool q)).run P w = .ok () w := run_guard_plain rfl (.inl (by simp))
    simp only [execOp, ho, hp, hq]
    refine run_v _ ?_
    simp only [Sem.run_bind, hg, Result.andThen_ok]
    cases neg <;> simp [binOp, equal_bool hu]
  · cases he

theorem equal_nil_slice {t e : TypeId} (ht : P.underlying t = some (.slice e)) (d : Nat) (A C : Option Addr) (l c l' c' : Nat) (h : A = none ∨ C = none) :
    (Op.equalIn (d + 1) t (.slice A l c) (.slice C l' c')).run P w = .ok (A.isNone && C.isNone) w := by
  rcases h with rfl | rfl
  · simp [Op.equalIn, underlying, ht]
  · cases A <;> simp [Op.equalIn, underlying, ht]
theorem equal_nil_ptr {t e : TypeId} (ht : P.underlying t = some (.pointer e)) (d : Nat) (A C : Option Addr) (h : A = none ∨ C = none) :
    (Op.equalIn (d + 1) t (.pointer A) (.pointer C)).run P w = .ok (A.isNone && C.isNone) w := by
  rcases h with rfl | rfl
  · simp [Op.equalIn, underlying, ht]
  · cases A <;> simp [Op.equalIn, underlying, ht]

theorem op_nileq (htt : TTok P tt) (hI : Inv B w0 M β st n w) (hrd : RD M β a rd) {ptr neg : Bool} {t ty : TypeId} {d : TD} {x y : Operand} {x' y' : Opd} (ho : o.op = .binOp (if neg then .neq else .eql) t x y ty) (ht : tt t = some d) (hd : if ptr then ∃ e, d.desc = .pointer e else ∃ e, d.desc = .slice e) (hx : slimO x = some x') (hy : slimO y = some y')
    (he : evIns st.get n rd (.nileq ptr neg x' y') = some (v, u, n')) : OpStep P B w0 M β (putAll st u) n' v o a w := by
  have hvx := hrd x x' hx
  have hvy := hrd y y' hy
  simp only [evIns] at he
  cases hn : nilEq ptr (rd x') (rd y') with
  | none => simp [hn] at he
  | some b =>
    obtain ⟨rfl, rfl, rfl⟩ : V.bool (if neg then !b else b) = v ∧ [] = u ∧ n = n' := by simpa [hn] using he
    refine OpStep.pure (val := .bool (if neg then !b else b)) ?_ hI (rv_mk rfl)
    simp only [execOp, ho]
    refine run_v _ ?_
    unfold nilEq at hn
    cases ptr with
    | false =>
      simp only [Bool.false_eq_true, if_false] at hn hd
      obtain ⟨e, hd⟩ := hd
      obtain ⟨A, l, c, C, l', c', h1, h2, h3, rfl⟩ : ∃ A l c C l' c', a.eval x = .slice A l c ∧ a.eval y = .slice C l' c' ∧ (A = none ∨ C = none) ∧ b = (A.isNone && C.isNone) := by
        split at hn
        · rename_i h1 h2
          rw [h1] at hvx; rw [h2] at hvy
          exact ⟨none, 0, 0, none, 0, 0, (rv_v hvx).1, (rv_v hvy).1, .inl rfl, by simpa [eq_comm] using hn⟩
        · rename_i id e off len h1 h2
          rw [h1] at hvx; rw [h2] at hvy
          obtain ⟨p, cap, _, h3, _⟩ := hvx
          exact ⟨_, _, _, none, 0, 0, h3, (rv_v hvy).1, .inr rfl, by simpa [eq_comm] using hn⟩
        · rename_i m cs h1 h2
          rw [h1] at hvx; rw [h2] at hvy
          have h' : RT M (a.eval x) (.sl m cs) := hvx
          unfold RT at h'
          obtain ⟨A, cap, h3, _, _, h4⟩ := h'
          have hA : A.isSome = true := by
            rcases h4 with h4 | ⟨_, _, _, rfl, _, _⟩
            · exact h4.2
            · rfl
          refine ⟨A, _, _, none, 0, 0, h3, (rv_v hvy).1, .inr rfl, ?_⟩
          obtain rfl : false = b := by simpa using hn
          cases A with
          | none => cases hA
          | some a => rfl
        · cases hn
      have hu : P.underlying t = some (.slice e) := by rw [(htt t d ht).und, hd]
      have hg : (eqGuard (if neg then .neq else .eql) t x y (.slice A l c) (.slice C l' c')).run P w = .ok () w := run_guard_plain rfl (.inl (by simp))
      have heq : (Op.equal t (.slice A l c) (.slice C l' c')).run P w = .ok (A.isNone && C.isNone) w := equal_nil_slice hu 9999 A C l c l' c' h3
      simp only [h1, h2, Sem.run_bind, hg, Result.andThen_ok]
      cases neg <;> simp [binOp, heq]
    | true =>
      simp only [if_true] at hn hd
      obtain ⟨e, hd⟩ := hd
      obtain ⟨A, C, h1, h2, h3, rfl⟩ : ∃ A C, a.eval x = .pointer A ∧ a.eval y = .pointer C ∧ (A = none ∨ C = none) ∧ b = (A.isNone && C.isNone) := by
        split at hn
        · rename_i id off h1 h2
          rw [h1] at hvx; rw [h2] at hvy
          obtain ⟨p, _, h3⟩ := hvx
          exact ⟨_, none, h3, (rv_v hvy).1, .inr rfl, by simpa [eq_comm] using hn⟩
        · rename_i cs h1 h2
          rw [h1] at hvx; rw [h2] at hvy
          obtain ⟨b', off, mc, h3, _⟩ := hvx
          exact ⟨_, none, h3, (rv_v hvy).1, .inr rfl, by simpa [eq_comm] using hn⟩
        · rename_i h1 h2
          rw [h1] at hvx; rw [h2] at hvy
          exact ⟨none, none, (rv_v hvx).1, (rv_v hvy).1, .inl rfl, by simpa [eq_comm] using hn⟩
        · cases hn
      have hu : P.underlying t = some (.pointer e) := by rw [(htt t d ht).und, hd]
      have hg : (eqGuard (if neg then .neq else .eql) t x y (.pointer A) (.pointer C)).run P w = .ok () w := run_guard_plain rfl (.inl (by simp))
      have heq : (Op.equal t (.pointer A) (.pointer C)).run P w = .ok (A.isNone && C.isNone) w := equal_nil_ptr hu 9999 A C h3
      simp only [h1, h2, Sem.run_bind, hg, Result.andThen_ok]
      cases neg <;> simp [binOp, heq]

theorem op_un (hI : Inv B w0 M β st n w) (hrd : RD M β a rd) {b : UnOp} {t : TypeId} {x : Operand} {x' : Opd} (ho : o.op = .unOp b t x) (hx : slimO x = some x') (he : evIns st.get n rd (.un b x') = some (v, u, n')) : OpStep P B w0 M β (putAll st u) n' v o a w := by
  have hvx := hrd x x' hx
  simp only [evIns] at he
  split at he
  · rename_i p h1
    rw [h1] at hvx
    obtain ⟨hp, _⟩ := rv_v hvx
    cases hb : un1 b p with
    | none => rw [hb] at he; cases he
    | some r =>
      rw [hb] at he
      obtain ⟨rfl, rfl, rfl⟩ : V.p r = v ∧ [] = u ∧ n = n' := by simpa using he
      have : (Op.unary b p).run P w = .ok r w ∧ plain r = true := by
        unfold un1 at hb
        split at hb
        · cases b <;> dsimp only at hb <;> first
            | (cases hb; done)
            | (simp only [Option.some.injEq] at hb; subst hb; simp [Op.unary, Op.intArith, Op.intBits, plain])
        · cases b <;> dsimp only at hb <;> first
            | (cases hb; done)
            | (simp only [Option.some.injEq] at hb; subst hb; simp [Op.unary, plain])
        · cases hb
      refine OpStep.pure (val := r) ?_ hI (rv_mk this.2)
      simp only [execOp, ho, hp]
      exact run_v _ this.1
  · cases he

theorem op_convI (htt : TTok P tt) (hI : Inv B w0 M β st n w) (hrd : RD M β a rd) {s t : TypeId} {ds d : TD} {k k' : IntKind} {x : Operand} {x' : Opd} (ho : o.op = .convert s t x) (hs : tt s = some ds) (hds : ds.desc = .int k') (ht : tt t = some d) (hd : d.desc = .int k) (hx : slimO x = some x')
    (he : evIns st.get n rd (.conv (.int k) x') = some (v, u, n')) : OpStep P B w0 M β (putAll st u) n' v o a w := by
  have hvx := hrd x x' hx
  simp only [evIns] at he
  split at he
  · rename_i k2 m h1
    rw [h1] at hvx
    obtain ⟨hp, _⟩ := rv_v hvx
    obtain ⟨rfl, rfl, rfl⟩ : V.int k (k.wrap m) = v ∧ [] = u ∧ n = n' := by simpa using he
    refine OpStep.pure (val := .int k (k.wrap m)) ?_ hI (rv_mk rfl)
    simp only [execOp, ho, hp]
    refine run_v _ ?_
    simp [convert, (htt s ds hs).run_und, (htt t d ht).run_und, hds, hd, Conv.intToInt]
  · cases he

theorem op_convS (htt : TTok P tt) (hI : Inv B w0 M β st n w) (hrd : RD M β a rd) {s t : TypeId} {ds d : TD} {x : Operand} {x' : Opd} (ho : o.op = .convert s t x) (hs : tt s = some ds) (hds : ds.desc = .string) (ht : tt t = some d) (hd : d.desc = .string) (hx : slimO x = some x')
    (he : evIns st.get n rd (.conv .same x') = some (v, u, n')) : OpStep P B w0 M β (putAll st u) n' v o a w := by
  have hvx := hrd x x' hx
  simp only [evIns] at he
  split at he
  · rename_i z h1
    rw [h1] at hvx
    obtain ⟨hp, _⟩ := rv_v hvx
    obtain ⟨rfl, rfl, rfl⟩ : V.p (.string z) = v ∧ [] = u ∧ n = n' := by simpa using he
    refine OpStep.pure (val := .string z) ?_ hI (rv_mk rfl)
    simp only [execOp, ho, hp]
    refine run_v _ ?_
    simp [convert, (htt s ds hs).run_und, (htt t d ht).run_und, hds, hd]
  · cases he

/-- What a slice that is read holds. -/
theorem srcOf_ok (hI : Inv B w0 M β st n w) {val : Value} {X : V} {e m : Nat} {ts : List T} (h0 : 0 < e) (hr : RV M β val X) (h : srcOf st.get e X = some (m, ts)) :
    ts.length = m * e ∧ m ≤ maxLen ∧ ∃ A cap vs, val = .slice A m cap ∧ All2 (RT M) vs ts ∧ ((A = none ∧ m = 0) ∨ (m = 0 ∧ vs = []) ∨ ∃ b off full ty fr, A = some ⟨b, off, none⟩ ∧ w.heap[b]? = some (.cells full ty fr) ∧ vs = (full.toList.drop off).take (m * e)) := by
  unfold srcOf at h
  split at h
  · rename_i k cs
    split at h
    · rename_i hle
      obtain ⟨rfl, rfl⟩ : k = m ∧ cs.take (k * e) = ts := by simpa using h
      have h' : RT M val (.sl k cs) := hr
      unfold RT at h'
      obtain ⟨A, cap, h1, h2, h3, h4⟩ := h'
      have hlen : (cs.take (k * e)).length = k * e := by simp; omega
      refine ⟨hlen, by omega, A, cap, ?_⟩
      rcases h4 with h4 | ⟨b, off, mc, rfl, hm, hs⟩
      · obtain ⟨h4, _⟩ := h4
        subst h4
        have hk : k = 0 := by
          rcases Nat.eq_zero_or_pos k with h | h
          · exact h
          · have := Nat.mul_pos h h0
            simp only [List.length_nil] at hle
            omega
        subst hk
        exact ⟨[], h1, by simp [All2], .inr (.inl ⟨rfl, rfl⟩)⟩
      · obtain ⟨full, ty, fr, hh, hpre⟩ := hI.agree b mc hm
        refine ⟨(full.drop off).take (k * e), h1, ?_, .inr (.inr ⟨b, off, full.toArray, ty, fr, rfl, hh, by simp⟩)⟩
        have hle2 := hs.le
        simp at hle2
        by_cases hz : k * e = 0
        · simp [hz, All2]
        · rw [pre_take hpre off (k * e) (by omega)]
          have := hs.len_at (off := 0) (k := k * e) (by omega)
          simpa using this
    · cases h
  · obtain ⟨rfl, rfl⟩ : 0 = m ∧ [] = ts := by simpa using h
    exact ⟨by simp, Nat.zero_le _, none, 0, [], (rv_v hr).1, trivial, .inl ⟨rfl, rfl⟩⟩
  · rename_i id e' off len
    split at h
    · rename_i hee
      subst hee
      obtain ⟨p, cap, hp, hval, hlc, hcm, htot⟩ := hr
      cases ha : arrOf st.get id with
      | none => simp [ha] at h
      | some g =>
        obtain ⟨cs, bb⟩ := g
        simp only [ha] at h
        split at h
        · rename_i hle
          obtain ⟨rfl, rfl⟩ : len = m ∧ (cs.drop off).take (len * e) = ts := by simpa using h
          refine ⟨by simp; omega, by omega, some ⟨p.1, off, none⟩, cap, ?_⟩
          unfold arrOf at ha
          cases hg : st.get id with
          | none => simp [hg] at ha
          | some b =>
            obtain ⟨q, hq, hH⟩ := hI.blk id b hg
            rw [hp] at hq
            obtain rfl : p = q := by simpa using hq
            cases b with
            | frz cs' =>
              obtain ⟨rfl, rfl⟩ : cs' = cs ∧ false = bb := by simpa [hg] using ha
              obtain ⟨mc, hm, hs⟩ := hH
              obtain ⟨full, ty, fr, hh, hpre⟩ := hI.agree p.1 mc hm
              have hle2 := hs.le
              refine ⟨(full.drop off).take (len * e), hval, ?_, .inr (.inr ⟨p.1, off, full.toArray, ty, fr, rfl, hh, by simp⟩)⟩
              rw [pre_take hpre off (len * e) (by omega)]
              exact hs.len_at hle
            | arr e2 cs' =>
              obtain ⟨rfl, rfl⟩ : cs' = cs ∧ true = bb := by simpa [hg] using ha
              obtain ⟨full, ty, hh, _, hs⟩ := hH
              exact ⟨(full.drop off).take (len * e), hval, hs.len_at hle, .inr (.inr ⟨p.1, off, full.toArray, ty, (0, 0), rfl, hh, by simp⟩)⟩
            | box _ => simp [hg] at ha
            | map _ _ _ => simp [hg] at ha
            | gone => simp [hg] at ha
        · cases h
    · cases h
  · cases h

theorem bytesOf_ok : ∀ {ts : List T} {vs : List Value} {l : List UInt8}, bytesOf ts = some l → All2 (RT M) vs ts → ∃ xs : List Int, vs = xs.map (Value.int .u8) ∧ l = xs.map fun n => UInt8.ofNat n.toNat
  | [], [], l, h, _ => ⟨[], rfl, by simpa [bytesOf, eq_comm] using h⟩
  | [], _ :: _, _, _, hr => hr.elim
  | _ :: _, [], _, _, hr => hr.elim
  | t :: ts, v :: vs, l, h, hr => by
    unfold bytesOf at h
    split at h
    · rename_i heq; cases heq
    · rename_i k r heq
      obtain ⟨rfl, rfl⟩ : t = .v (.int .u8 k) ∧ ts = r := by simpa using heq
      cases hb : bytesOf ts with
      | none => rw [hb] at h; cases h
      | some l' =>
        rw [hb] at h
        obtain rfl : UInt8.ofNat k.toNat :: l' = l := by simpa using h
        obtain ⟨xs, rfl, rfl⟩ := bytesOf_ok hb hr.2
        have h1 := hr.1
        unfold RT at h1
        exact ⟨k :: xs, by simp [h1.1], by simp⟩
    · cases h

theorem op_convB (htt : TTok P tt) (hI : Inv B w0 M β st n w) (hrd : RD M β a rd) {s t e : TypeId} {ds d de : TD} {x : Operand} {x' : Opd} (ho : o.op = .convert s t x) (hs : tt s = some ds) (hds : ds.desc = .slice e) (hde : tt e = some de) (hdd : de.desc = .int .u8) (ht : tt t = some d) (hd : d.desc = .string) (hx : slimO x = some x')
    (he : evIns st.get n rd (.conv .str x') = some (v, u, n')) : OpStep P B w0 M β (putAll st u) n' v o a w := by
  have hvx := hrd x x' hx
  simp only [evIns] at he
  cases hsrc : srcOf st.get 1 (rd x') with
  | none => simp [hsrc] at he
  | some g =>
    obtain ⟨m, ts⟩ := g
    simp only [hsrc] at he
    cases hb : bytesOf ts with
    | none => rw [hb] at he; cases he
    | some l =>
      rw [hb] at he
      obtain ⟨rfl, rfl, rfl⟩ : V.p (.string ⟨l.toArray⟩) = v ∧ [] = u ∧ n = n' := by simpa using he
      obtain ⟨hlen, _, A, cap, vs, hval, hT, hw⟩ := srcOf_ok hI (by omega) hvx hsrc
      obtain ⟨xs, rfl, rfl⟩ := bytesOf_ok hb hT
      refine OpStep.pure (val := .string (strOfNums xs)) ?_ hI (rv_mk rfl)
      have hus : P.underlying s = some (.slice e) := by rw [(htt s ds hs).und, hds]
      have hue : P.underlying e = some (.int .u8) := by rw [(htt e de hde).und, hdd]
      have hut : P.underlying t = some .string := by rw [(htt t d ht).und, hd]
      have hl := hT.length
      simp at hl hlen
      simp only [execOp, ho, hval]
      refine run_v _ ?_
      rcases hw with ⟨rfl, rfl⟩ | ⟨rfl, hvs⟩ | ⟨b, off, full, ty, fr, rfl, hh, hvs⟩
      · have : xs = [] := List.eq_nil_of_length_eq_zero (by omega)
        subst this
        exact run_convert_bytes_nil w s e hus hue 0 cap t hut
      · have : xs = [] := List.eq_nil_of_length_eq_zero (by omega)
        subst this
        cases A with
        | none => exact run_convert_bytes_nil w s e hus hue 0 cap t hut
        | some ad =>
          have := run_convert_bytes_string (P := P) w s t e (some ad) 0 cap hus hue hut
          rw [this]
          have hl0 : (loadCells ad 0).run P w = .ok #[] w := by simpa using run_loadCells_list (P := P) w ad [] (by simp)
          simp [Conv.bytesToString, hl0, strOfNums]
          rfl
      · refine run_convert_bytes_arg w s e hus hue b off m cap xs (by omega) (fun i hi => ?_) t hut
        rw [cell_of_row w b _ full ty fr hh]
        have h2 : (xs.map (Value.int .u8))[i]? = (((full.toList.drop off).take (m * 1)))[i]? := by rw [hvs]
        rw [List.getElem?_take, if_pos (by omega)] at h2
        simp only [List.getElem?_drop, Array.getElem?_toList] at h2
        rw [← h2]
        simp [List.getD_eq_getElem?_getD, List.getElem?_eq_getElem (show i < xs.length by omega)]

theorem slimOs_ok (hrd : RD M β a rd) : ∀ (xs : List Operand) (ys : List Opd), slimOs xs = some ys → All2 (RV M β) (xs.map a.eval) (ys.map rd)
  | [], ys, h => by
    obtain rfl : [] = ys := by simpa [slimOs] using h
    trivial
  | x :: xs, ys, h => by
    simp only [slimOs] at h
    cases hx : slimO x with
    | none => simp [hx] at h
    | some y =>
      cases hr : slimOs xs with
      | none => simp [hx, hr] at h
      | some r =>
        obtain rfl : y :: r = ys := by simpa [hx, hr] using h
        exact ⟨hrd x y hx, slimOs_ok hrd xs r hr⟩

theorem ptrsOf_ok : ∀ {xs : List V} {vals : List Value} {l : List (Nat × Nat)}, ptrsOf xs = some l → All2 (RV M β) vals xs → All2 (fun v (c : Nat × Nat) => ∃ p, β c.1 = some p ∧ v = .pointer (some ⟨p.1, c.2, none⟩)) vals l
  | [], [], l, h, _ => by
    obtain rfl : [] = l := by simpa [ptrsOf] using h
    trivial
  | [], _ :: _, _, _, hr => hr.elim
  | _ :: _, [], _, _, hr => hr.elim
  | x :: xs, v :: vals, l, h, hr => by
    unfold ptrsOf at h
    split at h
    · rename_i heq; cases heq
    · rename_i id off r heq
      obtain ⟨rfl, rfl⟩ : x = .c (.ptr id off) ∧ xs = r := by simpa using heq
      cases hb : ptrsOf xs with
      | none => rw [hb] at h; cases h
      | some l' =>
        rw [hb] at h
        obtain rfl : (id, off) :: l' = l := by simpa using h
        exact ⟨hr.1, ptrsOf_ok hb hr.2⟩
    · cases h

theorem op_mkfn (hI : Inv B w0 M β st n w) (hrd : RD M β a rd) {f : FuncId} {first caps : Array Operand} {ys : List Opd} (ho : o.op = .makeFunc (.func f) first caps) (hf : first.isEmpty = true) (hc : slimOs caps.toList = some ys)
    (he : evIns st.get n rd (.mkfn f ys) = some (v, u, n')) : OpStep P B w0 M β (putAll st u) n' v o a w := by
  simp only [evIns] at he
  cases hp : ptrsOf (ys.map rd) with
  | none => rw [hp] at he; cases he
  | some l =>
    rw [hp] at he
    obtain ⟨rfl, rfl, rfl⟩ : V.c (.clo f l) = v ∧ [] = u ∧ n = n' := by simpa using he
    have hps := ptrsOf_ok hp (slimOs_ok hrd _ _ hc)
    refine OpStep.pure (val := .func (.func f) #[] (caps.toList.map a.eval).toArray) ?_ hI ⟨_, rfl, hps⟩
    have hf' : first = #[] := by simpa using hf
    have hcs : (caps.toList.map a.eval).toArray = caps.map a.eval := by rw [← Array.toList_map, Array.toArray_toList]
    simp [execOp, ho, Instr.makeFunc, hf', hcs]

theorem op_mkmap (hI : Inv B w0 M β st n w) (hn : ¬ B.hi n) {t : TypeId} (ka va : Bool) (ho : o.op = .makeMap t none) : OpStep P B w0 M β (st.set n (.map ka va [])) (n + 1) (.c (.mp n)) o a w := by
  have hb : HB M (β.ext n (w.heap.size, 0)) (w.alloc (.map #[] 0)) (w.heap.size, 0) (.map ka va []) := ⟨[], 0, heap_alloc_new w _, trivial⟩
  refine OpStep.value (val := .map (some w.heap.size)) ?_ (hI.fresh hn (World.grownBy_alloc w _ none) (Nat.le_refl _) hb) ⟨(w.heap.size, 0), Bet.ext_at _ _ _, rfl⟩ (Mle.refl _) (hI.ble hn _)
  simp [execOp, ho, Instr.makeMap]

theorem op_mksl (htt : TTok P tt) (hI : Inv B w0 M β st n w) (hn : ∀ id, n ≤ id → id < n' → ¬ B.hi id) (hrd : RD M β a rd) {t e : TypeId} {d de : TD} {z : List Value} {l c : Operand} {l' c' : Opd} (ho : o.op = .makeSlice t l c) (ht : tt t = some d) (hd : d.desc = .slice e) (hde : tt e = some de) (hz : de.zero = some z) (h0 : 0 < de.size)
    (hl : slimO l = some l') (hc : slimO c = some c') (he : evIns st.get n rd (.mksl de.size de.bytes z l' c') = some (v, u, n')) : OpStep P B w0 M β (putAll st u) n' v o a w := by
  have hvl := hrd l l' hl
  have hvc := hrd c c' hc
  simp only [evIns] at he
  split at he
  · rename_i li ci h1 h2
    split at he
    · rename_i hcnd
      simp only [Bool.and_eq_true, decide_eq_true_eq, room] at hcnd
      obtain ⟨⟨⟨hp1, hp2⟩, hp3⟩, hp4⟩ := hcnd
      obtain ⟨kl, hkl⟩ := int_ok hvl h1
      obtain ⟨kc, hkc⟩ := int_ok hvc h2
      obtain ⟨rfl, rfl, rfl⟩ : V.c (.own n de.size 0 li.toNat) = v ∧ [(n, Blk.arr de.size ((List.replicate ci.toNat (z.map T.v)).flatten))] = u ∧ n + 1 = n' := by simpa using he
      obtain ⟨zv, hzv, hcz⟩ := (htt e de hde).run_zero (w := w) hz
      obtain ⟨hzp, hzl⟩ := (htt e de hde).zero_plain hz
      obtain ⟨inf, hinf, hi1, hi2⟩ := (htt e de hde).run_info (w := w)
      have hwl : IntKind.i64.wrap li = li := wrap64_id hp1 (by omega)
      have hwc : IntKind.i64.wrap ci = ci := wrap64_id (by omega) (by omega)
      have hbc : (de.bytes : Int) * ci ≤ 35184372088832 := by
        have h1 : (ci.toNat : Int) = ci := by omega
        have h2 := Int.ofNat_le.2 hp3
        rw [Int.natCast_mul, h1, Int.mul_comm] at h2
        omega
      have hb : HB M (β.ext n (w.heap.size, ci.toNat * de.size)) (w.alloc (.cells ((List.replicate ci.toNat z).flatten).toArray e)) (w.heap.size, ci.toNat * de.size) (.arr de.size ((List.replicate ci.toNat (z.map T.v)).flatten)) :=
        ⟨_, e, heap_alloc_new w _, by rw [flat_rep, hzl], RTs.all2 (all2_repT hzp _)⟩
      refine OpStep.value (val := .slice (some ⟨w.heap.size, 0, none⟩) li.toNat ci.toNat) ?_ (hI.new (hn n (Nat.le_refl _) (Nat.lt_succ_self _)) hb) ⟨(w.heap.size, ci.toNat * de.size), ci.toNat, Bet.ext_at _ _ _, rfl, by omega, by simp only [maxLen]; omega, by simp⟩ (Mle.refl _) (hI.ble (hn n (Nat.le_refl _) (Nat.lt_succ_self _)) _)
      simp only [execOp, ho]
      refine run_v _ ?_
      unfold Instr.makeSlice
      simp only [Sem.run_bind, (htt t d ht).run_und, hd, Result.andThen_ok, hkl, hkc, asInt, asIntOf, Sem.run_pure, hinf, hi2, hwl, hwc]
      have htl : ∀ x : Int, 0 ≤ x → x ≤ ci → ((x < 0) || ((de.bytes : Int) * x > 2 ^ 48)) = false := fun x hx0 hx1 => by
        have : (de.bytes : Int) * x ≤ (de.bytes : Int) * ci := Int.mul_le_mul_of_nonneg_left hx1 (by omega)
        simp only [Bool.or_eq_false_iff, decide_eq_false_iff_not]
        constructor
        · omega
        · omega
      rw [if_neg (by rw [htl ci (by omega) (Int.le_refl _)]; simp; omega)]
      simp only [Sem.run_bind, run_askRoom, Result.andThen_ok, (htt e de hde).run_size]
      by_cases hc0 : ci.toNat = 0
      · rw [hc0]
        rw [if_pos (by simp)]
        have h00 : ∀ f : Nat → Value, (Array.range (0 * de.size)).map f = #[] := fun f => by simp
        simp only [h00, Sem.run_bind, Sem.run_pure, Result.andThen_ok, run_newRow, List.replicate_zero, List.flatten_nil]
      · have hne : ¬ ci.toNat * de.size = 0 := by
          intro h0'
          rcases Nat.mul_eq_zero.1 h0' with h | h <;> omega
        rw [if_neg hne]
        have hrow := rep_get z (by omega) ci.toNat
        rw [hzl] at hrow
        simp only [Sem.run_bind, Sem.run_pure, Result.andThen_ok, hzv, hcz, hrow, run_newRow]
    · cases he
  · cases he
end
end Go.Proofs.Sg
