/- Rising lists. -/
import Derived.Test.YtcijgahloogooaaC9
namespace Go.Proofs.Ytcijgahloogooaa
open Go Go.Proofs.Sg
set_option linter.unusedSimpArgs false
set_option linter.unusedVariables false

abbrev ltN (a b : BitVec 32) : Prop := a.toNat < b.toNat
abbrev leN (a b : BitVec 32) : Prop := a.toNat ≤ b.toNat
theorem putL_mem (n x : BitVec 32) : ∀ l, x ∈ putL n l ↔ x = n ∨ x ∈ l
  | [] => by simp [putL]
  | y :: l => by
    unfold putL
    split
    · simp only [List.mem_cons, putL_mem n x l]
      constructor
      · rintro (h | h | h) <;> simp [h]
      · rintro (h | h | h) <;> simp [h]
    · split
      · rename_i e
        subst e
        simp
      · simp
theorem putL_rise (n : BitVec 32) : ∀ l, l.Pairwise ltN → (putL n l).Pairwise ltN
  | [], _ => by simp [putL]
  | y :: l, h => by
    rw [List.pairwise_cons] at h
    unfold putL
    split
    · rename_i hlt
      rw [BitVec.lt_def] at hlt
      rw [List.pairwise_cons]
      refine ⟨fun z hz => ?_, putL_rise n l h.2⟩
      rcases (putL_mem n z l).1 hz with rfl | hz
      · exact hlt
      · exact h.1 z hz
    · rename_i hlt
      rw [BitVec.lt_def] at hlt
      split
      · exact List.pairwise_cons.2 h
      · rename_i hne
        have hlt2 : n.toNat < y.toNat := by
          have : y.toNat ≠ n.toNat := fun e => hne (BitVec.eq_of_toNat_eq e)
          omega
        rw [List.pairwise_cons]
        refine ⟨fun z hz => ?_, List.pairwise_cons.2 h⟩
        rcases List.mem_cons.1 hz with rfl | hz
        · exact hlt2
        · exact Nat.lt_trans hlt2 (h.1 z hz)
theorem canF (c : List (BitVec 32)) : ∀ acc : List (BitVec 32), acc.Pairwise ltN → (c.foldl (fun c x => putL x c) acc).Pairwise ltN ∧ ∀ x, x ∈ c.foldl (fun c x => putL x c) acc ↔ x ∈ acc ∨ x ∈ c := by
  induction c with
  | nil => intro acc h; exact ⟨h, fun x => by simp⟩
  | cons y c ih =>
    intro acc h
    obtain ⟨h1, h2⟩ := ih (putL y acc) (putL_rise y acc h)
    refine ⟨h1, fun x => ?_⟩
    rw [List.foldl_cons, h2, putL_mem, List.mem_cons]
    constructor
    · rintro ((h | h) | h) <;> simp [h]
    · rintro (h | h | h) <;> simp [h]
theorem canL_rise (c : List (BitVec 32)) : (canL c).Pairwise ltN := (canF c [] List.Pairwise.nil).1
theorem canL_mem (c : List (BitVec 32)) (x : BitVec 32) : x ∈ canL c ↔ x ∈ c := by rw [canL, (canF c [] List.Pairwise.nil).2]; simp

theorem last_of {x : BitVec 32} {acc : List (BitVec 32)} (h : acc.Pairwise ltN) (hx : x ∈ acc) (ha : ∀ a ∈ acc, leN a x) : acc.getLast? = some x := by
  obtain ⟨ini, y, rfl⟩ : ∃ ini y, acc = ini ++ [y] := by
    have hne : acc ≠ [] := fun e => by rw [e] at hx; cases hx
    exact ⟨acc.dropLast, acc.getLast hne, (List.dropLast_concat_getLast hne).symm⟩
  rw [List.pairwise_append] at h
  rcases List.mem_append.1 hx with hi | hl
  · have h1 := h.2.2 x hi y (by simp)
    have h2 := ha y (by simp)
    omega
  · obtain rfl : x = y := by simpa using hl
    simp
theorem ddF (c : List (BitVec 32)) : ∀ acc : List (BitVec 32), acc.Pairwise ltN → c.Pairwise leN → (∀ a ∈ acc, ∀ x ∈ c, leN a x) → (c.foldl ddS acc).Pairwise ltN ∧ ∀ x, x ∈ c.foldl ddS acc ↔ x ∈ acc ∨ x ∈ c := by
  induction c with
  | nil => intro acc h _ _; exact ⟨h, fun x => by simp⟩
  | cons y c ih =>
    intro acc h hc ha
    rw [List.pairwise_cons] at hc
    have hay : ∀ a ∈ acc, leN a y := fun a h' => ha a h' y List.mem_cons_self
    have hS : (ddS acc y).Pairwise ltN ∧ ∀ x, x ∈ ddS acc y ↔ x ∈ acc ∨ x = y := by
      unfold ddS
      split
      · rename_i hl
        refine ⟨h, fun x => ⟨fun hx => .inl hx, fun hx => hx.elim id fun e => ?_⟩⟩
        subst e
        exact List.mem_of_getLast? hl
      · rename_i hl
        refine ⟨?_, fun x => by simp⟩
        rw [List.pairwise_append]
        refine ⟨h, List.pairwise_singleton _ _, fun a h1 b hb => ?_⟩
        obtain rfl : b = y := by simpa using hb
        have h2 := hay a h1
        have h3 : a.toNat ≠ b.toNat := fun e => by
          have e' := BitVec.eq_of_toNat_eq e
          subst e'
          exact hl (last_of h h1 hay)
        show a.toNat < b.toNat
        have h2' : a.toNat ≤ b.toNat := h2
        omega
    obtain ⟨h1, h2⟩ := ih (ddS acc y) hS.1 hc.2 (fun a h' x hx => by
      rcases (hS.2 a).1 h' with h' | rfl
      · exact ha a h' x (List.mem_cons_of_mem _ hx)
      · exact hc.1 x hx)
    refine ⟨h1, fun x => ?_⟩
    rw [List.foldl_cons, h2, hS.2, List.mem_cons]
    constructor
    · rintro ((h | h) | h) <;> simp [h]
    · rintro (h | h | h) <;> simp [h]
theorem srt_pair {l : List (BitVec 32)} (h : Srt l 0 l.length) : l.Pairwise leN := by
  rw [List.pairwise_iff_getElem]
  intro i j hi hj hij
  have := h i j (by omega) hij hj
  rw [getD_lt hi, getD_lt hj] at this
  exact this
/-- What is sorted, each once, is the same rising list. -/
theorem dd_canL {l c : List (BitVec 32)} (hs : Srt l 0 l.length) (hp : l.Perm c) : dd l = canL c := by
  obtain ⟨h1, h2⟩ := ddF l [] List.Pairwise.nil (srt_pair hs) (fun a h => by cases h)
  have h3 : (dd l).Pairwise ltN := h1
  have h4 := canL_rise c
  have hne : ∀ l : List (BitVec 32), l.Pairwise ltN → l.Nodup := fun l h => h.imp fun hab e => by subst e; exact Nat.lt_irrefl _ hab
  refine List.Perm.eq_of_pairwise (le := ltN) (fun a b _ _ hab hba => by have h1 : a.toNat < b.toNat := hab; have h2 : b.toNat < a.toNat := hba; omega) h3 h4 ?_
  rw [List.perm_ext_iff_of_nodup (hne _ h3) (hne _ h4)]
  intro x
  rw [canL_mem]
  show x ∈ l.foldl ddS [] ↔ _
  rw [h2]
  simp [hp.mem_iff]
end Go.Proofs.Ytcijgahloogooaa
