/- The frame, part F: the operations on numbers, structs and variables do what the evaluator says. -/
import Derived.Test.YtcijgahloogooaaFrE
namespace Go.Proofs.Sg
open Go.RowKit

/-- What an operation comes to. -/
def OpStep (P : Program) (B : Fr) (w0 : World) (M : Mem) (β : Bet) (st' : Tr Blk) (n' : Nat) (v : V) (o : Oper) (a : Act) (w : World) : Prop :=
  ∀ (next : Act → World → Prop) (Q : Exit → Act → World → Prop),
    (∀ val w' M' β', Inv B w0 M' β' st' n' w' → RV M' β' val v → Mle M M' → Ble β β' → next (a.put o.dst val) w') → o.wp P a w next Q

section
variable {P : Program} {B : Fr} {w0 w w' : World} {M M' : Mem} {β β' : Bet} {st st' : Tr Blk} {n n' : Nat} {v : V} {o : Oper} {a : Act} {val : Value}

theorem OpStep.value (hr : (execOp a.eval o).run P w = .ok (.value val) w') (hI : Inv B w0 M' β' st' n' w') (hv : RV M' β' val v) (hM : Mle M M') (hβ : Ble β β') : OpStep P B w0 M β st' n' v o a w := by
  intro next Q h
  unfold Oper.wp
  rw [hr]
  exact h val w' M' β' hI hv hM hβ

theorem OpStep.skip (hr : (execOp a.eval o).run P w = .ok .skip w') (hI : Inv B w0 M' β' st' n' w') (hM : Mle M M') (hβ : Ble β β') : OpStep P B w0 M β st' n' (.c .any) o a w := by
  intro next Q h
  unfold Oper.wp
  rw [hr]
  exact h undef w' M' β' hI trivial hM hβ

/-- An operation that only computes. -/
theorem OpStep.pure (hr : (execOp a.eval o).run P w = .ok (.value val) w) (hI : Inv B w0 M β st n w) (hv : RV M β val v) : OpStep P B w0 M β st n v o a w :=
  OpStep.value hr hI hv (Mle.refl _) (Ble.refl _)

/-- An operation of a value. -/
theorem run_v (s : Sem Value) (hs : s.run P w = .ok val w') : (do Pure.pure (Next.value (← s)) : Sem Next).run P w = .ok (.value val) w' := by
  simp [hs]
theorem run_u (s : Sem Unit) (hs : s.run P w = .ok () w') : (do s; Pure.pure Next.skip : Sem Next).run P w = .ok .skip w' := by
  simp [hs]
end

/-- Operands. -/
def RD (M : Mem) (β : Bet) (a : Act) (rd : Opd → V) : Prop := ∀ x y, slimO x = some y → RV M β (a.eval x) (rd y)

theorem rd_ok {M : Mem} {β : Bet} {s : S} {a : Act} (h : Rm M β s.tm a.tmps) : RD M β a s.rd := by
  intro x y hx
  cases x with
  | tmp t =>
    obtain rfl : Opd.t t = y := by simpa [slimO] using hx
    cases hg : s.tm.get t with
    | none => simp only [S.rd, hg]; trivial
    | some v => simp only [S.rd, hg]; exact (h t v hg).1
  | const v =>
    simp only [slimO] at hx
    split at hx
    · rename_i hp
      obtain rfl : Opd.k v = y := by simpa using hx
      show RT M v (.v v)
      unfold RT
      exact ⟨rfl, hp⟩
    · cases hx
  | func f =>
    obtain rfl : Opd.f f = y := by simpa [slimO] using hx
    show RT M (.func (.func f) #[] #[]) (.fn f [])
    unfold RT
    exact ⟨[], rfl, by unfold RPs; trivial⟩
  | global g => simp [slimO] at hx

theorem rv_v {M : Mem} {β : Bet} {val x : Value} (h : RV M β val (.c (.t (.v x)))) : val = x ∧ plain x = true := by
  have h' : RT M val (.v x) := h
  unfold RT at h'
  exact h'
theorem rv_mk {M : Mem} {β : Bet} {x : Value} (h : plain x = true) : RV M β x (V.p x) := by
  show RT M x (.v x)
  unfold RT
  exact ⟨rfl, h⟩

/-! ### Numbers -/
section
variable {P : Program} {w : World}
theorem equalIn_bool {t : TypeId} (ht : P.underlying t = some .bool) (a b : Bool) (d : Nat) : (Op.equalIn (d + 1) t (.bool a) (.bool b)).run P w = .ok (a == b) w := by
  simp [Op.equalIn, underlying, ht]
theorem equal_bool {t : TypeId} (ht : P.underlying t = some .bool) (a b : Bool) : (Op.equal t (.bool a) (.bool b)).run P w = .ok (a == b) w := equalIn_bool ht a b 9999
theorem bin1_ok {o : BinOp} {t : TypeId} {x y r : Value} (h : bin1 o x y = some r) : (binOp o t x y).run P w = .ok r w ∧ plain r = true := by
  unfold bin1 at h
  split at h
  · cases o <;> dsimp only at h <;> (try (split at h; (first | rename_i hc; subst hc | rename_i hc; skip))) <;> (try (split at h)) <;>
      first
        | (cases h; done)
        | (simp only [Option.some.injEq] at h; subst h; rename_i hb; simp [binOp, Op.shift, hb, plain]; done)
        | (simp only [Option.some.injEq] at h; subst h; simp_all [binOp, Op.intArith, Op.intDiv, Op.intBits, Op.intCmp, plain])
  · cases o <;> dsimp only at h <;> first
        | (cases h; done)
        | (simp only [Option.some.injEq] at h; subst h; simp [binOp, Op.stringOp, plain])
  · cases h
end
end Go.Proofs.Sg
