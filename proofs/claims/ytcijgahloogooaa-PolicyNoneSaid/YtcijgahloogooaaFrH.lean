/- The frame, part H: more operations. -/
import Derived.Test.YtcijgahloogooaaFrG
namespace Go.Proofs.Sg
open Go.RowKit

section
variable {P : Program} {tt : TT} {B : Fr} {w0 w : World} {M : Mem} {β : Bet} {st : Tr Blk} {n n' : Nat} {v : V} {u : List (Nat × Blk)} {o : Oper} {a : Act} {rd : Opd → V}

theorem all2_map_l {α γ δ : Type} {R : δ → γ → Prop} (f : α → δ) : ∀ {as : List α} {cs : List γ}, All2 (fun a c => R (f a) c) as cs → All2 R (as.map f) cs
  | [], [], _ => trivial
  | [], _ :: _, h => h.elim
  | _ :: _, [], h => h.elim
  | _ :: _, _ :: _, h => ⟨h.1, all2_map_l f h.2⟩

/-- The fields' places. -/
theorem run_places (htt : TTok P tt) : ∀ (fs : List Field), allTypes tt fs = true → ∃ ps : List (Nat × Nat), (fs.mapM fun f => do Pure.pure (f.offset, ← sizeOf f.type) : Sem (List (Nat × Nat))).run P w = .ok ps w ∧ ps.length = fs.length ∧
    ∀ (i : Nat) (f : Field), fs[i]? = some f → ∃ d, tt f.type = some d ∧ ps[i]? = some (f.offset, d.size)
  | [], _ => ⟨[], by simp, rfl, by simp⟩
  | f :: fs, h => by
    simp only [allTypes, Bool.and_eq_true, Option.isSome_iff_exists] at h
    obtain ⟨⟨d, hd⟩, h⟩ := h
    obtain ⟨ps, h1, h2, h3⟩ := run_places htt fs h
    refine ⟨(f.offset, d.size) :: ps, ?_, by simp [h2], ?_⟩
    · simp only [List.mapM_cons, Sem.run_bind, (htt f.type d hd).run_size, Result.andThen_ok, Sem.run_pure, h1]
    · intro i g hg
      cases i with
      | zero => simp at hg; subst hg; exact ⟨d, hd, by simp⟩
      | succ i => simpa using h3 i g (by simpa using hg)

theorem slimPs_ok (hrd : RD M β a rd) (fs : List Field) (pl : Nat → Option (Nat × Nat)) (hpl : ∀ (i : Nat) (f : Field) (d : TD), fs[i]? = some f → tt f.type = some d → pl i = some (f.offset, d.size)) :
    ∀ (ps : List (Nat × Operand)) (qs : List (Nat × Nat × Opd)), slimPs tt fs ps = some qs →
      All2 (fun (q : Nat × Value) (p : Nat × Nat × V) => pl q.1 = some (p.1, p.2.1) ∧ RV M β q.2 p.2.2) (ps.map fun p => (p.1, a.eval p.2)) (qs.map fun p => (p.1, p.2.1, rd p.2.2))
  | [], qs, h => by
    obtain rfl : [] = qs := by simpa [slimPs] using h
    trivial
  | (i, x) :: ps, qs, h => by
    simp only [slimPs] at h
    cases hf : fs[i]? with
    | none => simp [hf] at h
    | some f =>
      cases hd : tt f.type with
      | none => simp [hf, hd] at h
      | some d =>
        cases hx : slimO x with
        | none => simp [hf, hd, hx] at h
        | some y =>
          cases hr : slimPs tt fs ps with
          | none => simp [hf, hd, hx, hr] at h
          | some r =>
            obtain rfl : (f.offset, d.size, y) :: r = qs := by simpa [hf, hd, hx, hr] using h
            exact ⟨⟨hpl i f d hf hd, hrd x y hx⟩, slimPs_ok hrd fs pl hpl ps r hr⟩

theorem op_build (htt : TTok P tt) (hI : Inv B w0 M β st n w) (hrd : RD M β a rd) {t : TypeId} {ps : Array (Nat × Operand)} {d : TD} {fs : Array Field} {z : List Value} {qs : List (Nat × Nat × Opd)} {cs : List C} (ho : o.op = .build t ps) (ht : tt t = some d)
    (hd : d.desc = .struct fs) (hz : d.zero = some z) (hall : allTypes tt fs.toList = true) (hps : slimPs tt fs.toList ps.toList = some qs) (hf : fillC (z.map C.p) (qs.map fun p => (p.1, p.2.1, rd p.2.2)) = some cs) :
    OpStep P B w0 M β st n (.agg cs) o a w := by
  obtain ⟨zv, hzv, hcz⟩ := (htt t d ht).run_zero (w := w) hz
  obtain ⟨pl, hp1, hp2, hp3⟩ := run_places (w := w) htt fs.toList hall
  have hq := slimPs_ok hrd fs.toList (pl[·]?) (fun i f d hf hd => by
    obtain ⟨d', h1, h2⟩ := hp3 i f hf
    rw [hd] at h1
    obtain rfl : d = d' := by simpa using h1
    exact h2) ps.toList qs hps
  obtain ⟨vs, h1, h2⟩ := fillC_ok (pl[·]?) _ _ _ _ z hf (plain_C ((htt t d ht).zero_plain hz).1) hq
  refine OpStep.pure (val := .agg vs.toArray) ?_ hI ⟨vs, rfl, h2⟩
  simp only [execOp, ho]
  refine run_v _ ?_
  have hpa : (fs.mapM fun f => do Pure.pure (f.offset, ← sizeOf f.type) : Sem (Array (Nat × Nat))).run P w = .ok pl.toArray w := by
    rw [← Array.toArray_toList (xs := fs)] 
    rw [List.mapM_toArray, Sem.run_map, hp1]
    rfl
  unfold Instr.build
  simp only [Sem.run_bind, hzv, Result.andThen_ok, hcz, (htt t d ht).run_und, hd, hpa]
  have : (ps.map fun x => (x.1, a.eval x.2)).toList = ps.toList.map fun p => (p.1, a.eval p.2) := by simp
  simp only [this]
  simp [h1]

theorem slimPs'_ok (hrd : RD M β a rd) (e : Nat) : ∀ (ps : List (Nat × Operand)) (qs : List (Nat × Opd)), slimPs' ps = some qs →
      All2 (fun (q : Nat × Value) (p : Nat × Nat × V) => (fun i => some (i * e, e)) q.1 = some (p.1, p.2.1) ∧ RV M β q.2 p.2.2) (ps.map fun p => (p.1, a.eval p.2)) (qs.map fun p => (p.1 * e, e, rd p.2))
  | [], qs, h => by
    obtain rfl : [] = qs := by simpa [slimPs'] using h
    trivial
  | (i, x) :: ps, qs, h => by
    simp only [slimPs'] at h
    cases hx : slimO x with
    | none => simp [hx] at h
    | some y =>
      cases hr : slimPs' ps with
      | none => simp [hx, hr] at h
      | some r =>
        obtain rfl : (i, y) :: r = qs := by simpa [hx, hr] using h
        exact ⟨⟨rfl, hrd x y hx⟩, slimPs'_ok hrd e ps r hr⟩

theorem flat_rep {α : Type} (l : List α) (m : Nat) : ((List.replicate m l).flatten).length = m * l.length := by
  simp [List.length_flatten, List.map_replicate, List.sum_replicate_nat]

theorem rep_get (z : List Value) (hz : 0 < z.length) (m : Nat) : (Array.range (m * z.length)).map (fun i => z.toArray[i % z.toArray.size]!) = ((List.replicate m z).flatten).toArray := by
  apply Array.ext
  · simp
  · intro i h1 h2
    simp at h1
    have hmod : i % z.length < z.length := Nat.mod_lt _ hz
    simp only [Array.getElem_map, Array.getElem_range, List.size_toArray, List.getElem_toArray]
    have hk : ∀ (m i : Nat) (h : i < ((List.replicate m z).flatten).length), ((List.replicate m z).flatten)[i] = z[i % z.length]'(Nat.mod_lt _ hz) := by
      intro m
      induction m with
      | zero => intro i h; simp at h
      | succ m ih =>
        intro i h
        simp only [List.replicate_succ, List.flatten_cons, List.getElem_append]
        split
        · rename_i hi; simp [Nat.mod_eq_of_lt hi]
        · rename_i hi
          rw [ih]
          congr 1
          rw [Nat.mod_eq_sub_mod (by omega : z.length ≤ i)]
    rw [hk]
    simp [hmod]

theorem all2_rep {z : List Value} (hz : z.all plain = true) : ∀ m, All2 (RC M β) ((List.replicate m z).flatten) ((List.replicate m (z.map C.p)).flatten)
  | 0 => trivial
  | m + 1 => by simp only [List.replicate_succ, List.flatten_cons]; exact (plain_C hz).append (all2_rep hz m)
theorem all2_repT {z : List Value} (hz : z.all plain = true) : ∀ m, All2 (RT M) ((List.replicate m z).flatten) ((List.replicate m (z.map T.v)).flatten)
  | 0 => trivial
  | m + 1 => by simp only [List.replicate_succ, List.flatten_cons]; exact (plain_T hz).append (all2_repT hz m)

theorem op_bsl (htt : TTok P tt) (hI : Inv B w0 M β st n w) (hn : ¬ B.hi n) (hrd : RD M β a rd) {t e : TypeId} {m : Nat} {ps : Array (Nat × Operand)} {d de : TD} {z : List Value} {qs : List (Nat × Opd)} {cs : List C} {ts : List T} (ho : o.op = .buildSlice t m ps) (ht : tt t = some d)
    (hd : d.desc = .slice e) (he : tt e = some de) (hz : de.zero = some z) (hm : m * de.size ≤ 16777216) (h0 : 0 < de.size) (hps : slimPs' ps.toList = some qs)
    (hf : fillC ((List.replicate m (z.map C.p)).flatten) (qs.map fun p => (p.1 * de.size, de.size, rd p.2)) = some cs) (hts : toTs st.get cs = some (ts, u)) :
    OpStep P B w0 M β (putAll st (u ++ [(n, .arr de.size ts)])) (n + 1) (.c (.own n de.size 0 m)) o a w := by
  obtain ⟨zv, hzv, hcz⟩ := (htt e de he).run_zero (w := w) hz
  obtain ⟨hzp, hzl⟩ := (htt e de he).zero_plain hz
  obtain ⟨vs, h1, h2⟩ := fillC_ok (fun i => some (i * de.size, de.size)) _ _ _ _ _ hf (all2_rep hzp m) (slimPs'_ok hrd de.size ps.toList qs hps)
  obtain ⟨M', hM, hI', _, hT⟩ := toTs_ok (Fz.refl st) hI h2 hts
  have hlen : vs.length = m * de.size := by
    have := h2.length
    have hc : ∀ (ps : List (Nat × Nat × V)) (cs cs' : List C), fillC cs ps = some cs' → cs'.length = cs.length := by
      intro ps
      induction ps with
      | nil => intro cs cs' h; simp [fillC] at h; rw [h]
      | cons p ps ih =>
        intro cs cs' h
        obtain ⟨off, k, x⟩ := p
        simp only [fillC] at h
        cases hx : x.mem with
        | none => simp [hx] at h
        | some xs =>
          simp only [hx] at h
          split at h
          · rename_i hc
            simp only [Bool.and_eq_true, decide_eq_true_eq] at hc
            rw [ih _ _ h]
            simp
            omega
          · cases h
    rw [this, hc _ _ _ hf, flat_rep]
    simp [hzl]
  have hb : HB M' (β.ext n (w.heap.size, m * de.size)) (w.alloc (.cells vs.toArray e)) (w.heap.size, m * de.size) (.arr de.size ts) :=
    ⟨vs, e, heap_alloc_new w _, hlen, RTs.all2 hT⟩
  rw [putAll_append]
  refine OpStep.value (val := .slice (some ⟨w.heap.size, 0, none⟩) m m) ?_ (hI'.new hn hb) ⟨(w.heap.size, m * de.size), m, Bet.ext_at _ _ _, rfl, Nat.le_refl _, ?_, by simp⟩ hM (hI.ble hn _)
  · simp only [execOp, ho]
    refine run_v _ ?_
    unfold Instr.buildSlice
    simp only [Sem.run_bind, (htt t d ht).run_und, hd, Result.andThen_ok, (htt e de he).run_size]
    rw [if_neg (by simp; omega)]
    have hpa : (ps.map fun x => (x.1, a.eval x.2)).toList = ps.toList.map fun p => (p.1, a.eval p.2) := by simp
    by_cases hmz : m = 0
    · subst hmz
      rw [if_pos (by simp)]
      have h00 : ∀ f : Nat → Value, (Array.range (0 * de.size)).map f = #[] := fun f => by simp
      have h1' : Instr.fill (fun i => some (i * de.size, de.size)) #[] (ps.toList.map fun p => (p.1, a.eval p.2)) = some vs.toArray := h1
      simp only [Sem.run_bind, Sem.run_pure, Result.andThen_ok, hpa, h00, h1', run_newRow]
    · have hne : ¬ m * de.size = 0 := by
        intro h0'
        rcases Nat.mul_eq_zero.1 h0' with h | h <;> omega
      rw [if_neg hne]
      have hrow := rep_get z (by omega) m
      rw [hzl] at hrow
      simp only [Sem.run_bind, Sem.run_pure, Result.andThen_ok, hpa, hzv, hcz, hrow, h1, run_newRow]
  · simp only [maxLen]
    have : m ≤ m * de.size := Nat.le_mul_of_pos_right _ h0
    omega
end
end Go.Proofs.Sg
