/- The frame, part W: the types' table of a loaded program. -/
import Derived.Test.YtcijgahloogooaaFrV
namespace Go.Proofs.Sg
open Go.RowKit

def ttOf (P : Program) : TT := fun t => match P.underlying t with
  | none => none
  | some d => match P.info? t with
    | none => none
    | some i => some {
        desc := d, size := i.size, bytes := i.bytes,
        zero := match i.zero with
          | some zv => if zv.cells.toList.all plain && zv.cells.toList.length == i.size then some zv.cells.toList else none
          | none => none,
        eqok := !P.stoodInHeld t && !P.eqGuardType P.depth t }

theorem ttOf_ok (P : Program) : TTok P (ttOf P) := by
  intro t d h
  unfold ttOf at h
  split at h
  · cases h
  · rename_i ds hu
    split at h
    · cases h
    · rename_i i hi
      injection h with h
      subst h
      refine ⟨hu, ⟨i, hi, rfl, rfl, fun z hz => ?_⟩, fun he => ?_⟩
      · dsimp only at hz
        cases hzv : i.zero with
        | none => rw [hzv] at hz; cases hz
        | some zv =>
          rw [hzv] at hz
          dsimp only at hz
          by_cases hc : (zv.cells.toList.all plain && zv.cells.toList.length == i.size) = true
          · rw [if_pos hc] at hz
            rw [Bool.and_eq_true] at hc
            obtain rfl : zv.cells.toList = z := by simpa using hz
            exact ⟨hc.1, by simpa using hc.2, zv, rfl, by simp⟩
          · rw [if_neg hc] at hz; cases hz
      · have he' : (!P.stoodInHeld t && !P.eqGuardType P.depth t) = true := he
        simpa using he'

/-! ### A table of functions -/
structure FnFact (P : Program) (tt : TT) (f : Nat) (sf : SFn) : Prop where
  ok : ∃ fn, P.funcs[f]? = some fn ∧ (fn.name == "runtime.NumGoroutine") = false ∧ slimF tt fn = some sf

def tabFn : List (Nat × SFn) → Nat → Option SFn
  | [], _ => none
  | (g, sf) :: l, f => if f = g then some sf else tabFn l f

theorem tabFn_ok {P : Program} {tt : TT} : ∀ {l : List (Nat × SFn)}, (∀ p ∈ l, FnFact P tt p.1 p.2) → ∀ f sf, tabFn l f = some sf → ∃ fn, P.funcs[f]? = some fn ∧ (fn.name == "runtime.NumGoroutine") = false ∧ slimF tt fn = some sf
  | [], _, f, sf, h => by cases h
  | (g, s) :: l, hl, f, sf, h => by
    unfold tabFn at h
    split at h
    · rename_i e
      subst e
      obtain rfl : s = sf := by simpa using h
      exact (hl (f, s) List.mem_cons_self).ok
    · exact tabFn_ok (fun p hp => hl p (List.mem_cons_of_mem _ hp)) f sf h
end Go.Proofs.Sg
