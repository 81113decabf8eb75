/- The frame, part C: how the evaluator's stores and the model's memory move together. -/
import Derived.Test.YtcijgahloogooaaFrB
import Derived.Laws.CopyRow
import Derived.Laws.AppendOwn
import Derived.Laws.Rows
namespace Go.Proofs.Sg
open Go.RowKit

section
variable {B : Fr} {w0 w w' : World} {M M' : Mem} {β β' : Bet} {st : Tr Blk} {n : Nat}

/-- A block whose memory stands lives on. -/
theorem HB.keep {p : Nat × Nat} {b : Blk} (h : HB M β w p b) (hM : Mle M M') (hβ : Ble β β') (hw : b.live = true → ∀ o, w.heap[p.1]? = some o → w'.heap[p.1]? = some o) : HB M' β' w' p b := by
  cases b with
  | box cs => obtain ⟨full, ty, h1, h2⟩ := h; exact ⟨full, ty, hw rfl _ h1, h2.mono fun _ _ => RC.mono hM hβ⟩
  | arr e cs => obtain ⟨full, ty, h1, h2, h3⟩ := h; exact ⟨full, ty, hw rfl _ h1, h2, RTs.mono hM h3⟩
  | frz cs => obtain ⟨mc, h1, h2⟩ := h; exact ⟨mc, hM _ _ h1, RTs.mono hM h2⟩
  | map ka va es =>
    obtain ⟨ents, cl, h1, h2⟩ := h
    exact ⟨ents, cl, hw rfl _ h1, h2.mono fun m e ⟨x, y⟩ => ⟨x.mono hM, y.mono hM⟩⟩
  | gone => trivial

theorem HB.lt {p : Nat × Nat} {b : Blk} (h : HB M β w p b) (hl : b.live = true) : p.1 < w.heap.size := by
  cases b with
  | box cs => obtain ⟨full, ty, h1, h2⟩ := h; exact (Array.getElem?_eq_some_iff.1 h1).1
  | arr e cs => obtain ⟨full, ty, h1, h2, h3⟩ := h; exact (Array.getElem?_eq_some_iff.1 h1).1
  | frz cs => cases hl
  | map ka va es => obtain ⟨ents, cl, h1, h2⟩ := h; exact (Array.getElem?_eq_some_iff.1 h1).1
  | gone => cases hl

theorem Inv.mem_lt (h : Inv B w0 M β st n w) {b : Nat} {mc : List Value} (hb : M b = some mc) : b < w.heap.size := by
  obtain ⟨full, ty, fr, hh, _⟩ := h.agree b mc hb
  exact (Array.getElem?_eq_some_iff.1 hh).1

theorem Inv.kept_of (h : Inv B w0 M β st n w) {x : Option Nat} (hg : w.grownBy w' x) (hx : ∀ q, x = some q → B.X q = none) : ∀ q o, B.X q = some o → w'.heap[q]? = some o := by
  intro q o hq
  have h1 := h.kept q o hq
  rw [hg.block q (Array.getElem?_eq_some_iff.1 h1).1 (fun e => by rw [hx q e.symm] at hq; cases hq)]
  exact h1

/-- A block of the store is written. -/
theorem Inv.change (h : Inv B w0 M β st n w) {id : Nat} {b b' : Blk} {p : Nat × Nat} (hid : st.get id = some b) (hl : b.live = true) (hp : β id = some p)
    (hg : w.grownBy w' (some p.1)) (hb : HB M β w' p b') : Inv B w0 M β (st.set id b') n w' := by
  obtain ⟨hMp, hBp⟩ := h.live id b p hid hl hp
  have hHB := h.blk id b hid
  obtain ⟨p', hp', hHB⟩ := hHB
  rw [hp] at hp'
  obtain rfl : p = p' := by simpa using hp'
  have hkeep : ∀ q, q ≠ p.1 → q < w.heap.size → w'.heap[q]? = w.heap[q]? := fun q hq hlt => hg.block q hlt (by simpa using hq)
  refine ⟨?_, ?_, ?_, ?_, h.low, h.lo, ?_, h.base, ?_, h.old⟩
  · intro b mc hb
    obtain ⟨full, ty, fr, hh, hx⟩ := h.agree b mc hb
    refine ⟨full, ty, fr, ?_, hx⟩
    rw [hkeep b (fun e => by rw [e, hMp] at hb; cases hb) (Array.getElem?_eq_some_iff.1 hh).1]
    exact hh
  · intro i bi hi
    rw [Tr.get_set] at hi
    split at hi
    · rename_i e
      subst e
      obtain rfl : b' = bi := by simpa using hi
      exact ⟨p, hp, hb⟩
    · rename_i e
      obtain ⟨q, hq, hH⟩ := h.blk i bi hi
      refine ⟨q, hq, hH.keep (Mle.refl _) (Ble.refl _) fun hlv o ho => ?_⟩
      rw [hkeep q.1 (h.apart i id bi b q p hi hid hlv hl hq hp e) (Array.getElem?_eq_some_iff.1 ho).1]
      exact ho
  · intro i bi q hi hlv hq
    rw [Tr.get_set] at hi
    split at hi
    · rename_i e
      subst e
      rw [hp] at hq
      obtain rfl : p = q := by simpa using hq
      exact ⟨hMp, hBp⟩
    · exact h.live i bi q hi hlv hq
  · intro i j bi bj q r hi hj hli hlj hq hr hne
    rw [Tr.get_set] at hi hj
    split at hi
    · rename_i e
      subst e
      rw [if_neg (Ne.symm hne)] at hj
      exact h.apart i j b bj q r hid hj hl hlj hq hr hne
    · split at hj
      · rename_i e
        subst e
        exact h.apart i j bi b q r hi hid hli hl hq hr hne
      · exact h.apart i j bi bj q r hi hj hli hlj hq hr hne
  · exact h.below.grown hg (Nat.le_trans h.base h.below.size) (fun k hk => by have e : p.1 = k := (by simpa using hk); omega)
  · exact h.kept_of hg fun q hq => by
      have e : p.1 = q := by simpa using hq
      rw [← e]
      exact hBp.2

def Bet.ext (β : Bet) (n : Nat) (p : Nat × Nat) : Bet := fun i => if i = n then some p else β i
theorem Inv.ble (h : Inv B w0 M β st n w) (hn : ¬ B.hi n) (p : Nat × Nat) : Ble β (β.ext n p) := by
  intro i q hq
  have := h.low i q hq
  unfold Bet.ext
  rw [if_neg (fun e => by subst e; rcases this with h | h; omega; exact hn h)]
  exact hq
theorem Bet.ext_at (β : Bet) (n : Nat) (p : Nat × Nat) : β.ext n p n = some p := by simp [Bet.ext]

/-- A new block, or one that takes an elder block's place: 'k' is let go. -/
theorem Inv.fresh (h : Inv B w0 M β st n w) (hn : ¬ B.hi n) (hg : w.grownBy w' none) {p : Nat × Nat} {b' : Blk} (hp : w.heap.size ≤ p.1) (hb : HB M (β.ext n p) w' p b') :
    Inv B w0 M (β.ext n p) (st.set n b') (n + 1) w' := by
  have hkeep : ∀ q, q < w.heap.size → w'.heap[q]? = w.heap[q]? := fun q hlt => hg.block q hlt (by simp)
  have hlo : ∀ i q, (β.ext n p) i = some q → i ≠ n → β i = some q := fun i q hq hi => by simpa [Bet.ext, hi] using hq
  have hat : ∀ q, (β.ext n p) n = some q → q = p := fun q hq => by simpa [Bet.ext, eq_comm] using hq
  have hB : B.b ≤ w.heap.size := Nat.le_trans h.base h.below.size
  refine ⟨?_, ?_, ?_, ?_, ?_, Nat.le_succ_of_le h.lo, ?_, h.base, ?_, h.old⟩
  · intro b mc hb
    obtain ⟨full, ty, fr, hh, hx⟩ := h.agree b mc hb
    exact ⟨full, ty, fr, by rw [hkeep b (Array.getElem?_eq_some_iff.1 hh).1]; exact hh, hx⟩
  · intro i bi hi
    rw [Tr.get_set] at hi
    split at hi
    · rename_i e
      subst e
      obtain rfl : b' = bi := by simpa using hi
      exact ⟨p, Bet.ext_at _ _ _, hb⟩
    · obtain ⟨q, hq, hH⟩ := h.blk i bi hi
      exact ⟨q, h.ble hn p i q hq, hH.keep (Mle.refl _) (h.ble hn p) fun _ o ho => by rw [hkeep q.1 (Array.getElem?_eq_some_iff.1 ho).1]; exact ho⟩
  · intro i bi q hi hlv hq
    rw [Tr.get_set] at hi
    split at hi
    · rename_i e
      subst e
      obtain rfl := hat q hq
      refine ⟨?_, by omega, ?_⟩
      · cases hm : M q.1 with
        | none => rfl
        | some mc => have := h.mem_lt hm; omega
      · cases hm : B.X q.1 with
        | none => rfl
        | some o => have := (Array.getElem?_eq_some_iff.1 (h.kept _ _ hm)).1; omega
    · rename_i e
      exact h.live i bi q hi hlv (hlo i q hq e)
  · intro i j bi bj q r hi hj hli hlj hq hr hne
    have hold : ∀ i bi q, i ≠ n → st.get i = some bi → bi.live = true → (β.ext n p) i = some q → q.1 < w.heap.size := fun i bi q hi hg hl hq => by
      obtain ⟨q', hq', hH⟩ := h.blk i bi hg
      rw [hlo i q hq hi] at hq'
      obtain rfl : q = q' := by simpa using hq'
      exact hH.lt hl
    rw [Tr.get_set] at hi hj
    split at hi
    · rename_i e
      subst e
      rw [if_neg (Ne.symm hne)] at hj
      have := hold j bj r (Ne.symm hne) hj hlj hr
      obtain rfl := hat q hq
      omega
    · rename_i ei
      split at hj
      · rename_i e
        subst e
        have := hold i bi q ei hi hli hq
        obtain rfl := hat r hr
        omega
      · rename_i ej
        exact h.apart i j bi bj q r hi hj hli hlj (hlo i q hq ei) (hlo j r hr ej) hne
  · intro i q hq
    by_cases e : i = n
    · exact .inl ⟨by have := h.lo; omega, by omega⟩
    · exact (h.low i q (hlo i q hq e)).imp (fun _ => by omega) (fun x => x)
  · exact h.below.grown hg hB (fun k hk => by cases hk)
  · exact h.kept_of hg fun q hq => by cases hq

/-- A block is let go. -/
theorem Inv.drop (h : Inv B w0 M β st n w) {id : Nat} {b : Blk} (hid : st.get id = some b) : Inv B w0 M β (st.set id .gone) n w := by
  obtain ⟨p, hp, _⟩ := h.blk id b hid
  refine ⟨h.agree, ?_, ?_, ?_, h.low, h.lo, h.below, h.base, h.kept, h.old⟩
  · intro i bi hi
    rw [Tr.get_set] at hi
    split at hi
    · rename_i e; subst e
      obtain rfl : Blk.gone = bi := by simpa using hi
      exact ⟨p, hp, trivial⟩
    · exact h.blk i bi hi
  · intro i bi q hi hlv hq
    rw [Tr.get_set] at hi
    split at hi
    · obtain rfl : Blk.gone = bi := by simpa using hi
      cases hlv
    · exact h.live i bi q hi hlv hq
  · intro i j bi bj q r hi hj hli hlj hq hr hne
    rw [Tr.get_set] at hi hj
    split at hi
    · obtain rfl : Blk.gone = bi := by simpa using hi
      cases hli
    · split at hj
      · obtain rfl : Blk.gone = bj := by simpa using hj
        cases hlj
      · exact h.apart i j bi bj q r hi hj hli hlj hq hr hne

/-- A block of the store goes on under a new number, in the same memory. -/
theorem Inv.again (h : Inv B w0 M β st n w) (hn : ¬ B.hi n) {id : Nat} {b b' : Blk} {p : Nat × Nat} (hid : st.get id = some b) (hl : b.live = true) (hp : β id = some p)
    (hg : w.grownBy w' (some p.1)) {t : Nat} (hb : HB M (β.ext n (p.1, t)) w' (p.1, t) b') : Inv B w0 M (β.ext n (p.1, t)) ((st.set id .gone).set n b') (n + 1) w' := by
  obtain ⟨hMp, hBp⟩ := h.live id b p hid hl hp
  have hkeep : ∀ q, q ≠ p.1 → q < w.heap.size → w'.heap[q]? = w.heap[q]? := fun q hq hlt => hg.block q hlt (by simpa using hq)
  have hlo : ∀ i q, (β.ext n (p.1, t)) i = some q → i ≠ n → β i = some q := fun i q hq hi => by simpa [Bet.ext, hi] using hq
  have hat : ∀ q, (β.ext n (p.1, t)) n = some q → q = (p.1, t) := fun q hq => by simpa [Bet.ext, eq_comm] using hq
  have hidn : id ≠ n := fun e => by subst e; rcases h.low _ p hp with h | h; omega; exact hn h
  have hother : ∀ i bi q, i ≠ n → i ≠ id → st.get i = some bi → bi.live = true → (β.ext n (p.1, t)) i = some q → q.1 ≠ p.1 := fun i bi q hn hi hgi hli hq =>
    h.apart i id bi b q p hgi hid hli hl (hlo i q hq hn) hp hi
  refine ⟨?_, ?_, ?_, ?_, ?_, Nat.le_succ_of_le h.lo, ?_, h.base, ?_, h.old⟩
  · intro b mc hb
    obtain ⟨full, ty, fr, hh, hx⟩ := h.agree b mc hb
    exact ⟨full, ty, fr, by rw [hkeep b (fun e => by rw [e, hMp] at hb; cases hb) (Array.getElem?_eq_some_iff.1 hh).1]; exact hh, hx⟩
  · intro i bi hi
    rw [Tr.get_set, Tr.get_set] at hi
    split at hi
    · rename_i e; subst e
      obtain rfl : b' = bi := by simpa using hi
      exact ⟨_, Bet.ext_at _ _ _, hb⟩
    · rename_i en
      split at hi
      · rename_i e; subst e
        obtain rfl : Blk.gone = bi := by simpa using hi
        exact ⟨p, h.ble hn _ _ _ hp, trivial⟩
      · rename_i ei
        obtain ⟨q, hq, hH⟩ := h.blk i bi hi
        exact ⟨q, h.ble hn _ i q hq, hH.keep (Mle.refl _) (h.ble hn _) fun hlv o ho => by rw [hkeep q.1 (h.apart i id bi b q p hi hid hlv hl hq hp ei) (Array.getElem?_eq_some_iff.1 ho).1]; exact ho⟩
  · intro i bi q hi hlv hq
    rw [Tr.get_set, Tr.get_set] at hi
    split at hi
    · rename_i e; subst e
      obtain rfl := hat q hq
      exact ⟨hMp, hBp⟩
    · rename_i en
      split at hi
      · obtain rfl : Blk.gone = bi := by simpa using hi
        cases hlv
      · exact h.live i bi q hi hlv (hlo i q hq en)
  · intro i j bi bj q r hi hj hli hlj hq hr hne
    rw [Tr.get_set, Tr.get_set] at hi hj
    split at hi
    · rename_i e; subst e
      rw [if_neg (Ne.symm hne)] at hj
      split at hj
      · obtain rfl : Blk.gone = bj := by simpa using hj
        cases hlj
      · rename_i ej
        have := hother j bj r (Ne.symm hne) ej hj hlj hr
        obtain rfl := hat q hq
        exact Ne.symm this
    · rename_i en
      split at hi
      · obtain rfl : Blk.gone = bi := by simpa using hi
        cases hli
      · rename_i ei
        split at hj
        · rename_i e; subst e
          have := hother i bi q en ei hi hli hq
          obtain rfl := hat r hr
          exact this
        · rename_i ejn
          split at hj
          · obtain rfl : Blk.gone = bj := by simpa using hj
            cases hlj
          · exact h.apart i j bi bj q r hi hj hli hlj (hlo i q hq en) (hlo j r hr ejn) hne
  · intro i q hq
    by_cases e : i = n
    · exact .inl ⟨by have := h.lo; omega, by omega⟩
    · exact (h.low i q (hlo i q hq e)).imp (fun _ => by omega) (fun x => x)
  · exact h.below.grown hg (Nat.le_trans h.base h.below.size) (fun k hk => by have e : p.1 = k := (by simpa using hk); omega)
  · exact h.kept_of hg fun q hq => by
      have e : p.1 = q := by simpa using hq
      rw [← e]
      exact hBp.2

/-- The world moves, and nothing in it. -/
theorem Inv.idle (h : Inv B w0 M β st n w) (hg : w.grownBy w' none) : Inv B w0 M β st n w' := by
  have hkeep : ∀ q, q < w.heap.size → w'.heap[q]? = w.heap[q]? := fun q hlt => hg.block q hlt (by simp)
  refine ⟨?_, ?_, h.live, h.apart, h.low, h.lo, h.below.grown hg (Nat.le_trans h.base h.below.size) (fun k hk => by cases hk), h.base, h.kept_of hg (fun q hq => by cases hq), h.old⟩
  · intro b mc hb
    obtain ⟨full, ty, fr, hh, hx⟩ := h.agree b mc hb
    exact ⟨full, ty, fr, by rw [hkeep b (Array.getElem?_eq_some_iff.1 hh).1]; exact hh, hx⟩
  · intro i bi hi
    obtain ⟨q, hq, hH⟩ := h.blk i bi hi
    exact ⟨q, hq, hH.keep (Mle.refl _) (Ble.refl _) fun _ o ho => by rw [hkeep q.1 (Array.getElem?_eq_some_iff.1 ho).1]; exact ho⟩

def Mem.ext (M : Mem) (b : Nat) (mc : List Value) : Mem := fun i => if i = b then some mc else M i

/-- A block is never written any more. -/
theorem Inv.freeze (h : Inv B w0 M β st n w) {id : Nat} {b : Blk} {p : Nat × Nat} {full : List Value} {ty : TypeId} {cs : List T} (hid : st.get id = some b) (hl : b.live = true) (hp : β id = some p)
    (hh : w.heap[p.1]? = some (.cells full.toArray ty (0, 0))) (hcs : RTs M full cs) : Mle M (M.ext p.1 full) ∧ Inv B w0 (M.ext p.1 full) β (st.set id (.frz cs)) n w := by
  obtain ⟨hMp, hBp⟩ := h.live id b p hid hl hp
  have hM : Mle M (M.ext p.1 full) := fun i mc hi => by
    unfold Mem.ext
    rw [if_neg (fun e => by rw [e, hMp] at hi; cases hi)]
    exact hi
  refine ⟨hM, ?_, ?_, ?_, ?_, h.low, h.lo, h.below, h.base, h.kept, ?_⟩
  · intro i mc hi
    unfold Mem.ext at hi
    split at hi
    · rename_i e; subst e
      obtain rfl : full = mc := by simpa using hi
      exact ⟨full, ty, (0, 0), hh, List.prefix_refl _⟩
    · exact h.agree i mc hi
  · intro i bi hi
    rw [Tr.get_set] at hi
    split at hi
    · rename_i e; subst e
      obtain rfl : Blk.frz cs = bi := by simpa using hi
      exact ⟨p, hp, full, by simp [Mem.ext], RTs.mono hM hcs⟩
    · obtain ⟨q, hq, hH⟩ := h.blk i bi hi
      exact ⟨q, hq, hH.keep hM (Ble.refl _) fun _ o ho => ho⟩
  · intro i bi q hi hlv hq
    rw [Tr.get_set] at hi
    split at hi
    · obtain rfl : Blk.frz cs = bi := by simpa using hi
      cases hlv
    · rename_i e
      obtain ⟨h1, h2⟩ := h.live i bi q hi hlv hq
      refine ⟨?_, h2⟩
      unfold Mem.ext
      rw [if_neg (h.apart i id bi b q p hi hid hlv hl hq hp e)]
      exact h1
  · intro i j bi bj q r hi hj hli hlj hq hr hne
    rw [Tr.get_set] at hi hj
    split at hi
    · obtain rfl : Blk.frz cs = bi := by simpa using hi
      cases hli
    · split at hj
      · obtain rfl : Blk.frz cs = bj := by simpa using hj
        cases hlj
      · exact h.apart i j bi bj q r hi hj hli hlj hq hr hne
  · intro i mc hi
    unfold Mem.ext at hi
    split at hi
    · rename_i e; subst e
      exact .inr hBp
    · exact h.old i mc hi

/-- What is frozen is frozen still. -/
theorem Inv.same (h : Inv B w0 M β st n w) {st' : Tr Blk} (he : ∀ i, st'.get i = st.get i) : Inv B w0 M β st' n w :=
  ⟨h.agree, fun i b hi => h.blk i b (by rw [← he]; exact hi), fun i b p hi => h.live i b p (by rw [← he]; exact hi), fun i j bi bj p q hi hj => h.apart i j bi bj p q (by rw [← he]; exact hi) (by rw [← he]; exact hj), h.low, h.lo, h.below, h.base, h.kept, h.old⟩
end

/-! ### Trees out of cells -/
/-- A store in which some blocks have become trees. -/
def Fz (st st' : Tr Blk) : Prop := ∀ id, st'.get id = st.get id ∨ (∃ e cs, st.get id = some (.arr e cs) ∧ st'.get id = some (.frz cs)) ∨ (∃ x, st.get id = some (.box [.t x]) ∧ st'.get id = some (.frz [x]))
theorem Fz.refl (st : Tr Blk) : Fz st st := fun _ => .inl rfl

theorem RTs.drop {M : Mem} : ∀ (k : Nat) {vs : List Value} {ts : List T}, RTs M vs ts → RTs M (vs.drop k) (ts.drop k)
  | 0, _, _, h => by simpa using h
  | k + 1, _, [], _ => by simp [RTs]
  | k + 1, [], _ :: _, h => by unfold RTs at h; exact h.elim
  | k + 1, _ :: _, _ :: _, h => by unfold RTs at h; simpa using RTs.drop k h.2
theorem RTs.take {M : Mem} : ∀ (k : Nat) {vs : List Value} {ts : List T}, RTs M vs ts → RTs M vs (ts.take k)
  | 0, _, _, _ => by simp [RTs]
  | k + 1, _, [], _ => by simp [RTs]
  | k + 1, [], _ :: _, h => by unfold RTs at h; exact h.elim
  | k + 1, _ :: _, _ :: _, h => by unfold RTs at h; simp only [List.take_succ_cons]; unfold RTs; exact ⟨h.1, RTs.take k h.2⟩
theorem RTs.le {M : Mem} : ∀ {vs : List Value} {ts : List T}, RTs M vs ts → ts.length ≤ vs.length
  | _, [], _ => by simp
  | [], _ :: _, h => by unfold RTs at h; exact h.elim
  | _ :: _, _ :: _, h => by unfold RTs at h; have := RTs.le h.2; simp; omega
theorem RTs.all2 {M : Mem} : ∀ {vs : List Value} {ts : List T}, All2 (RT M) vs ts → RTs M vs ts
  | _, [], _ => by unfold RTs; trivial
  | [], _ :: _, h => h.elim
  | _ :: _, _ :: _, h => by unfold RTs; exact ⟨h.1, RTs.all2 h.2⟩
theorem RTs.get_all2 {M : Mem} : ∀ {vs : List Value} {ts : List T}, RTs M vs ts → All2 (RT M) (vs.take ts.length) ts
  | _, [], _ => by simp [All2]
  | [], _ :: _, h => by unfold RTs at h; exact h.elim
  | _ :: _, _ :: _, h => by unfold RTs at h; exact ⟨h.1, RTs.get_all2 h.2⟩

section
variable {B : Fr} {w0 w : World} {β : Bet} {st st' : Tr Blk} {n : Nat}

theorem toT_ok {M : Mem} (hf : Fz st st') (hI : Inv B w0 M β st' n w) {val : Value} {c : C} {t : T} {u : List (Nat × Blk)} (hr : RC M β val c) (h : toT st.get c = some (t, u)) :
    ∃ M', Mle M M' ∧ Inv B w0 M' β (putAll st' u) n w ∧ Fz st (putAll st' u) ∧ RT M' val t := by
  cases c with
  | t x =>
    simp only [toT, Option.some.injEq, Prod.mk.injEq] at h
    obtain ⟨rfl, rfl⟩ := h
    exact ⟨M, Mle.refl _, hI, hf, hr⟩
  | own id e off len =>
    obtain ⟨p, cap, hp, rfl, hlc, hcm, htot⟩ := hr
    simp only [toT] at h
    cases ha : arrOf st.get id with
    | none => rw [ha] at h; cases h
    | some x =>
      obtain ⟨cs, bb⟩ := x
      rw [ha] at h
      dsimp only at h
      split at h
      · rename_i hle
        simp only [Option.some.injEq, Prod.mk.injEq] at h
        obtain ⟨rfl, rfl⟩ := h
        -- what the block is
        have hsl : ∀ (M' : Mem) (mc : List Value), M' p.1 = some mc → RTs M' mc cs → RT M' (.slice (some ⟨p.1, off, none⟩) len cap) (.sl len ((cs.drop off).take (len * e))) := fun M' mc hm hs => by
          unfold RT
          exact ⟨_, _, rfl, hlc, hcm, .inr ⟨p.1, off, mc, rfl, hm, (hs.drop off).take _⟩⟩
        have hfrz : st'.get id = some (.frz cs) → ∃ mc, M p.1 = some mc ∧ RTs M mc cs := fun hg => by
          obtain ⟨q, hq, hH⟩ := hI.blk id _ hg
          rw [hp] at hq
          obtain rfl : p = q := by simpa using hq
          exact hH
        unfold arrOf at ha
        cases hg : st.get id with
        | none => rw [hg] at ha; cases ha
        | some b =>
          rw [hg] at ha
          cases b with
          | frz cs' =>
            simp only [Option.some.injEq, Prod.mk.injEq] at ha
            obtain ⟨rfl, rfl⟩ := ha
            have hg' : st'.get id = some (.frz cs') := by
              rcases hf id with h1 | ⟨e', c', h1, h2⟩ | ⟨x, h1, h2⟩
              · rw [h1, hg]
              · rw [hg] at h1; cases h1
              · rw [hg] at h1; cases h1
            obtain ⟨mc, hm, hs⟩ := hfrz hg'
            exact ⟨M, Mle.refl _, hI, hf, hsl M mc hm hs⟩
          | arr e' cs' =>
            simp only [Option.some.injEq, Prod.mk.injEq] at ha
            obtain ⟨rfl, rfl⟩ := ha
            simp only [if_true, putAll]
            rcases hf id with h1 | ⟨e2, c2, h1, h2⟩ | ⟨x, h1, h2⟩
            · rw [hg] at h1
              obtain ⟨q, hq, full, ty, hh, hlen, hs⟩ := hI.blk id _ h1
              rw [hp] at hq
              obtain rfl : p = q := by simpa using hq
              obtain ⟨hM, hI'⟩ := hI.freeze h1 rfl hp hh hs
              refine ⟨_, hM, hI', ?_, hsl _ full (by simp [Mem.ext]) (RTs.mono hM hs)⟩
              intro i
              rw [Tr.get_set]
              split
              · rename_i ei; subst ei
                exact .inr (.inl ⟨e', cs', hg, rfl⟩)
              · exact hf i
            · rw [hg] at h1
              obtain ⟨rfl, rfl⟩ : e' = e2 ∧ cs' = c2 := by simpa using h1
              obtain ⟨mc, hm, hs⟩ := hfrz h2
              have he : ∀ i, (st'.set id (.frz cs')).get i = st'.get i := fun i => by
                rw [Tr.get_set]
                split
                · rename_i ei; rw [ei, h2]
                · rfl
              exact ⟨M, Mle.refl _, hI.same he, fun i => by rw [he]; exact hf i, hsl M mc hm hs⟩
            · rw [hg] at h1; cases h1
          | box _ => cases ha
          | map _ _ _ => cases ha
          | gone => cases ha
      · cases h
  | clo f caps =>
    obtain ⟨ps, rfl, hps⟩ := hr
    simp only [toT] at h
    match caps, h, hps with
    | [(id, 0)], h, hps =>
      match ps, hps with
      | [v], hps =>
        obtain ⟨⟨p, hp, rfl⟩, _⟩ := hps
        cases hg : st.get id with
        | none => simp [hg] at h
        | some b =>
          match b, hg with
          | .box [.t x], hg =>
            simp only [hg, Option.some.injEq, Prod.mk.injEq] at h
            obtain ⟨rfl, rfl⟩ := h
            simp only [putAll]
            rcases hf id with h1 | ⟨e2, c2, h1, h2⟩ | ⟨x', h1, h2⟩
            · rw [hg] at h1
              obtain ⟨q, hq, full, ty, hh, hs⟩ := hI.blk id _ h1
              rw [hp] at hq
              obtain rfl : p = q := by simpa using hq
              match full, hs, hh with
              | [y], hs, hh =>
                have hs' : RTs M [y] [x] := by unfold RTs; exact ⟨hs.1, by unfold RTs; trivial⟩
                obtain ⟨hM, hI'⟩ := hI.freeze h1 rfl hp hh hs'
                refine ⟨_, hM, hI', ?_, ?_⟩
                · intro i
                  rw [Tr.get_set]
                  split
                  · rename_i ei; subst ei
                    exact .inr (.inr ⟨x, hg, rfl⟩)
                  · exact hf i
                · unfold RT
                  refine ⟨_, rfl, ?_⟩
                  unfold RPs
                  exact ⟨⟨p.1, y, [], rfl, by simp [Mem.ext], RT.mono hM hs.1⟩, by unfold RPs; trivial⟩
            · rw [hg] at h1; cases h1
            · rw [hg] at h1
              obtain rfl : x = x' := by simpa using h1
              obtain ⟨q, hq, mc, hm, hs⟩ := hI.blk id _ h2
              rw [hp] at hq
              obtain rfl : p = q := by simpa using hq
              have he : ∀ i, (st'.set id (.frz [x])).get i = st'.get i := fun i => by
                rw [Tr.get_set]
                split
                · rename_i ei; rw [ei, h2]
                · rfl
              refine ⟨M, Mle.refl _, hI.same he, fun i => by rw [he]; exact hf i, ?_⟩
              match mc, hs, hm with
              | y :: r, hs, hm =>
                unfold RTs at hs
                unfold RT
                refine ⟨_, rfl, ?_⟩
                unfold RPs
                exact ⟨⟨p.1, y, r, rfl, hm, hs.1⟩, by unfold RPs; trivial⟩
              | [], hs, _ => unfold RTs at hs; exact hs.elim
          | .frz [x], hg =>
            simp only [hg, Option.some.injEq, Prod.mk.injEq] at h
            obtain ⟨rfl, rfl⟩ := h
            have hg' : st'.get id = some (.frz [x]) := by
              rcases hf id with h1 | ⟨e', c', h1, h2⟩ | ⟨x, h1, h2⟩
              · rw [h1, hg]
              · rw [hg] at h1; cases h1
              · rw [hg] at h1; cases h1
            obtain ⟨q, hq, mc, hm, hs⟩ := hI.blk id _ hg'
            rw [hp] at hq
            obtain rfl : p = q := by simpa using hq
            refine ⟨M, Mle.refl _, hI, hf, ?_⟩
            match mc, hs, hm with
            | y :: r, hs, hm =>
              unfold RTs at hs
              unfold RT
              refine ⟨_, rfl, ?_⟩
              unfold RPs
              exact ⟨⟨p.1, y, r, rfl, hm, hs.1⟩, by unfold RPs; trivial⟩
            | [], hs, _ => unfold RTs at hs; exact hs.elim
          | .arr _ _, hg => simp [hg] at h
          | .map _ _ _, hg => simp [hg] at h
          | .gone, hg => simp [hg] at h
          | .frz [], hg => simp [hg] at h
          | .frz (_ :: _ :: _), hg => simp [hg] at h
          | .box [], hg => simp [hg] at h
          | .box (_ :: _ :: _), hg => simp [hg] at h
          | .box [.ptr _ _], hg => simp [hg] at h
          | .box [.own _ _ _ _], hg => simp [hg] at h
          | .box [.tp _], hg => simp [hg] at h
          | .box [.clo _ _], hg => simp [hg] at h
          | .box [.mp _], hg => simp [hg] at h
          | .box [.any], hg => simp [hg] at h
  | ptr id off => simp [toT] at h
  | tp cs => simp [toT] at h
  | mp id => simp [toT] at h
  | any => simp [toT] at h

theorem putAll_append (st : Tr Blk) : ∀ (u v : List (Nat × Blk)), putAll st (u ++ v) = putAll (putAll st u) v
  | [], _ => rfl
  | (i, b) :: u, v => putAll_append (st.set i b) u v

theorem toTs_ok : ∀ {cs : List C} {vals : List Value} {ts : List T} {u : List (Nat × Blk)} {M : Mem} {st' : Tr Blk}, Fz st st' → Inv B w0 M β st' n w → All2 (RC M β) vals cs → toTs st.get cs = some (ts, u) →
    ∃ M', Mle M M' ∧ Inv B w0 M' β (putAll st' u) n w ∧ Fz st (putAll st' u) ∧ All2 (RT M') vals ts
  | [], [], ts, u, M, st', hf, hI, _, h => by
    simp only [toTs, Option.some.injEq, Prod.mk.injEq] at h
    obtain ⟨rfl, rfl⟩ := h
    exact ⟨M, Mle.refl _, hI, hf, trivial⟩
  | [], _ :: _, _, _, _, _, _, _, hr, _ => hr.elim
  | _ :: _, [], _, _, _, _, _, _, hr, _ => hr.elim
  | c :: cs, v :: vals, ts, u, M, st', hf, hI, hr, h => by
    simp only [toTs] at h
    cases h1 : toT st.get c with
    | none => simp [h1] at h
    | some x =>
      obtain ⟨t, u1⟩ := x
      cases h2 : toTs st.get cs with
      | none => simp [h1, h2] at h
      | some y =>
        obtain ⟨ts', u2⟩ := y
        simp only [h1, h2, Option.some.injEq, Prod.mk.injEq] at h
        obtain ⟨rfl, rfl⟩ := h
        obtain ⟨M1, hM1, hI1, hf1, hr1⟩ := toT_ok hf hI hr.1 h1
        obtain ⟨M2, hM2, hI2, hf2, hr2⟩ := toTs_ok hf1 hI1 (hr.2.mono fun _ _ => RC.mono hM1 (Ble.refl _)) h2
        rw [putAll_append]
        exact ⟨M2, hM1.trans hM2, hI2, hf2, RT.mono hM2 hr1, hr2⟩
end
end Go.Proofs.Sg
