/- The frame, part B: what the evaluator's data mean in the model's memory. -/
import Derived.Test.YtcijgahloogooaaFrA
import Derived.Below
namespace Go.Proofs.Sg
open Go.RowKit

/-! ### The tree of numbered things -/
theorem Tr.get_setF {α : Type} (a : α) : ∀ (f : Nat) (t : Tr α) (i j : Nat), i < f → (Tr.setF f t i a).get j = if j = i then some a else t.get j
  | 0, _, _, _, h => by omega
  | f + 1, .leaf, i, j, h => by
    unfold Tr.setF
    by_cases hi : i = 0
    · subst hi
      by_cases hj : j = 0
      · simp [Tr.get, hj]
      · simp [Tr.get, hj]
    · rw [if_neg hi]
      by_cases h1 : i % 2 = 1
      · rw [if_pos h1]
        have ih := Tr.get_setF a f .leaf (i / 2)
        unfold Tr.get
        by_cases hj : j = 0
        · rw [if_pos hj, if_neg (by omega)]
        · rw [if_neg hj]
          by_cases hj1 : j % 2 = 1
          · rw [if_pos hj1, ih _ (by omega)]
            by_cases e : j = i
            · rw [if_pos (by omega), if_pos e]
            · rw [if_neg (by omega), if_neg e]; rfl
          · rw [if_neg hj1, if_neg (by omega)]; rfl
      · rw [if_neg h1]
        have ih := Tr.get_setF a f .leaf ((i - 1) / 2)
        unfold Tr.get
        by_cases hj : j = 0
        · rw [if_pos hj, if_neg (by omega)]
        · rw [if_neg hj]
          by_cases hj1 : j % 2 = 1
          · rw [if_pos hj1, if_neg (by omega)]; rfl
          · rw [if_neg hj1, ih _ (by omega)]
            by_cases e : j = i
            · rw [if_pos (by omega), if_pos e]
            · rw [if_neg (by omega), if_neg e]; rfl
  | f + 1, .node x l r, i, j, h => by
    unfold Tr.setF
    by_cases hi : i = 0
    · subst hi
      by_cases hj : j = 0
      · simp [Tr.get, hj]
      · simp [Tr.get, hj]
    · rw [if_neg hi]
      by_cases h1 : i % 2 = 1
      · rw [if_pos h1]
        have ih := Tr.get_setF a f l (i / 2)
        unfold Tr.get
        by_cases hj : j = 0
        · rw [if_pos hj, if_neg (by omega), if_pos hj]
        · rw [if_neg hj]
          by_cases hj1 : j % 2 = 1
          · rw [if_pos hj1, ih _ (by omega)]
            by_cases e : j = i
            · rw [if_pos (by omega), if_pos e]
            · rw [if_neg (by omega), if_neg e, if_neg hj, if_pos hj1]
          · rw [if_neg hj1, if_neg (by omega), if_neg hj, if_neg hj1]
      · rw [if_neg h1]
        have ih := Tr.get_setF a f r ((i - 1) / 2)
        unfold Tr.get
        by_cases hj : j = 0
        · rw [if_pos hj, if_neg (by omega), if_pos hj]
        · rw [if_neg hj]
          by_cases hj1 : j % 2 = 1
          · rw [if_pos hj1, if_neg (by omega), if_neg hj, if_pos hj1]
          · rw [if_neg hj1, ih _ (by omega)]
            by_cases e : j = i
            · rw [if_pos (by omega), if_pos e]
            · rw [if_neg (by omega), if_neg e, if_neg hj, if_neg hj1]

theorem Tr.get_set {α : Type} (t : Tr α) (i j : Nat) (a : α) : (t.set i a).get j = if j = i then some a else t.get j :=
  Tr.get_setF a (i + 1) t i j (by omega)
theorem Tr.get_leaf {α : Type} (i : Nat) : (Tr.leaf : Tr α).get i = none := rfl

/-! ### Data in memory -/
abbrev Mem := Nat → Option (List Value)
abbrev Bet := Nat → Option (Nat × Nat)

mutual
/-- A value is a tree, in memory that nobody writes. -/
def RT (M : Mem) : Value → T → Prop
  | val, .v x => val = x ∧ plain x = true
  | val, .sl n cs => ∃ A cap, val = .slice A n cap ∧ n ≤ cap ∧ cap ≤ maxLen ∧ ((cs = [] ∧ A.isSome = true) ∨ ∃ b off mc, A = some ⟨b, off, none⟩ ∧ M b = some mc ∧ RTs M (mc.drop off) cs)
  | val, .fn f caps => ∃ ptrs : List Value, val = .func (.func f) #[] ptrs.toArray ∧ RPs M ptrs caps
/-- Cells begin with trees. -/
def RTs (M : Mem) : List Value → List T → Prop
  | _, [] => True
  | v :: vs, c :: cs => RT M v c ∧ RTs M vs cs
  | [], _ :: _ => False
/-- Pointers to single cells that nobody writes. -/
def RPs (M : Mem) : List Value → List T → Prop
  | [], [] => True
  | v :: vs, c :: cs => (∃ b x mc, v = .pointer (some ⟨b, 0, none⟩) ∧ M b = some (x :: mc) ∧ RT M x c) ∧ RPs M vs cs
  | _, _ => False
end

def Mle (M M' : Mem) : Prop := ∀ b mc, M b = some mc → M' b = some mc
def Ble (β β' : Bet) : Prop := ∀ i p, β i = some p → β' i = some p
theorem Mle.refl (M : Mem) : Mle M M := fun _ _ h => h
theorem Ble.refl (β : Bet) : Ble β β := fun _ _ h => h
theorem Mle.trans {a b c : Mem} (h : Mle a b) (k : Mle b c) : Mle a c := fun _ _ x => k _ _ (h _ _ x)
theorem Ble.trans {a b c : Bet} (h : Ble a b) (k : Ble b c) : Ble a c := fun _ _ x => k _ _ (h _ _ x)

mutual
theorem RT.mono {M M' : Mem} (h : Mle M M') : ∀ {v : Value} {t : T}, RT M v t → RT M' v t
  | _, .v _, hr => by unfold RT at *; exact hr
  | _, .sl n cs, hr => by
    unfold RT at *
    obtain ⟨A, cap, h1, h2, h3, h4⟩ := hr
    refine ⟨A, cap, h1, h2, h3, h4.imp id ?_⟩
    rintro ⟨b, off, mc, e, hm, hs⟩
    exact ⟨b, off, mc, e, h _ _ hm, RTs.mono h hs⟩
  | _, .fn f caps, hr => by
    unfold RT at *
    obtain ⟨p, h1, h2⟩ := hr
    exact ⟨p, h1, RPs.mono h h2⟩
theorem RTs.mono {M M' : Mem} (h : Mle M M') : ∀ {vs : List Value} {ts : List T}, RTs M vs ts → RTs M' vs ts
  | _, [], _ => by unfold RTs; trivial
  | [], _ :: _, hr => by unfold RTs at hr; exact hr.elim
  | v :: vs, c :: cs, hr => by unfold RTs at *; exact ⟨RT.mono h hr.1, RTs.mono h hr.2⟩
theorem RPs.mono {M M' : Mem} (h : Mle M M') : ∀ {vs : List Value} {ts : List T}, RPs M vs ts → RPs M' vs ts
  | [], [], _ => by unfold RPs; trivial
  | [], _ :: _, hr => by unfold RPs at hr; exact hr.elim
  | _ :: _, [], hr => by unfold RPs at hr; exact hr.elim
  | v :: vs, c :: cs, hr => by
    unfold RPs at *
    obtain ⟨⟨b, x, mc, e, hm, hx⟩, hr⟩ := hr
    exact ⟨⟨b, x, mc, e, h _ _ hm, RT.mono h hx⟩, RPs.mono h hr⟩
end

/-- Pointwise. -/
def All2 {α γ : Type} (R : α → γ → Prop) : List α → List γ → Prop
  | [], [] => True
  | a :: as, c :: cs => R a c ∧ All2 R as cs
  | _, _ => False

theorem All2.mono {α γ : Type} {R R' : α → γ → Prop} (h : ∀ a c, R a c → R' a c) : ∀ {as : List α} {cs : List γ}, All2 R as cs → All2 R' as cs
  | [], [], _ => trivial
  | [], _ :: _, hr => hr.elim
  | _ :: _, [], hr => hr.elim
  | _ :: _, _ :: _, hr => ⟨h _ _ hr.1, All2.mono h hr.2⟩
theorem All2.length {α γ : Type} {R : α → γ → Prop} : ∀ {as : List α} {cs : List γ}, All2 R as cs → as.length = cs.length
  | [], [], _ => rfl
  | [], _ :: _, hr => hr.elim
  | _ :: _, [], hr => hr.elim
  | _ :: _, _ :: _, hr => by simp [All2.length hr.2]
theorem All2.append {α γ : Type} {R : α → γ → Prop} : ∀ {as bs : List α} {cs ds : List γ}, All2 R as cs → All2 R bs ds → All2 R (as ++ bs) (cs ++ ds)
  | [], _, [], _, _, h => h
  | [], _, _ :: _, _, hr, _ => hr.elim
  | _ :: _, _, [], _, hr, _ => hr.elim
  | _ :: _, _, _ :: _, _, hr, h => ⟨hr.1, All2.append hr.2 h⟩
theorem All2.take {α γ : Type} {R : α → γ → Prop} (n : Nat) : ∀ {as : List α} {cs : List γ}, All2 R as cs → All2 R (as.take n) (cs.take n) := by
  induction n with
  | zero => intro as cs _; simp [All2]
  | succ n ih =>
    intro as cs h
    match as, cs, h with
    | [], [], _ => simp [All2]
    | _ :: _, _ :: _, h => exact ⟨h.1, ih h.2⟩
theorem All2.drop {α γ : Type} {R : α → γ → Prop} (n : Nat) : ∀ {as : List α} {cs : List γ}, All2 R as cs → All2 R (as.drop n) (cs.drop n) := by
  induction n with
  | zero => intro as cs h; simpa using h
  | succ n ih =>
    intro as cs h
    match as, cs, h with
    | [], [], _ => simp [All2]
    | _ :: _, _ :: _, h => exact ih h.2
theorem All2.get {α γ : Type} {R : α → γ → Prop} : ∀ {as : List α} {cs : List γ}, All2 R as cs → ∀ (i : Nat) (c : γ), cs[i]? = some c → ∃ a, as[i]? = some a ∧ R a c
  | [], [], _, i, c, h => by simp at h
  | [], _ :: _, hr, _, _, _ => hr.elim
  | _ :: _, [], hr, _, _, _ => hr.elim
  | a :: as, c :: cs, hr, 0, c', h => by simp at h; subst h; exact ⟨a, by simp, hr.1⟩
  | a :: as, c :: cs, hr, i + 1, c', h => by
    simp at h
    obtain ⟨a', h1, h2⟩ := All2.get hr.2 i c' h
    exact ⟨a', by simpa using h1, h2⟩
theorem All2.map_right {α γ δ : Type} {R : α → δ → Prop} (f : γ → δ) : ∀ {as : List α} {cs : List γ}, All2 (fun a c => R a (f c)) as cs → All2 R as (cs.map f)
  | [], [], _ => trivial
  | [], _ :: _, hr => hr.elim
  | _ :: _, [], hr => hr.elim
  | _ :: _, _ :: _, hr => ⟨hr.1, All2.map_right f hr.2⟩

/-- One cell. -/
def RC (M : Mem) (β : Bet) : Value → C → Prop
  | val, .t x => RT M val x
  | val, .ptr id off => ∃ p, β id = some p ∧ val = .pointer (some ⟨p.1, off, none⟩)
  | val, .own id e off len => ∃ p cap, β id = some p ∧ val = .slice (some ⟨p.1, off, none⟩) len cap ∧ len ≤ cap ∧ cap ≤ maxLen ∧ off + cap * e = p.2
  | val, .tp cs => ∃ b off mc, val = .pointer (some ⟨b, off, none⟩) ∧ M b = some mc ∧ RTs M (mc.drop off) cs
  | val, .clo f caps => ∃ ps : List Value, val = .func (.func f) #[] ps.toArray ∧ All2 (fun v (c : Nat × Nat) => ∃ p, β c.1 = some p ∧ v = .pointer (some ⟨p.1, c.2, none⟩)) ps caps
  | val, .mp id => ∃ p, β id = some p ∧ val = .map (some p.1)
  | _, .any => True

theorem RC.mono {M M' : Mem} {β β' : Bet} (h : Mle M M') (k : Ble β β') {v : Value} {c : C} (hr : RC M β v c) : RC M' β' v c := by
  cases c with
  | t x => exact RT.mono h hr
  | ptr id off => obtain ⟨p, h1, h2⟩ := hr; exact ⟨p, k _ _ h1, h2⟩
  | own id e off len => obtain ⟨p, cap, h1, h2⟩ := hr; exact ⟨p, cap, k _ _ h1, h2⟩
  | tp cs => obtain ⟨b, off, mc, h1, h2, h3⟩ := hr; exact ⟨b, off, mc, h1, h _ _ h2, RTs.mono h h3⟩
  | clo f caps => obtain ⟨ps, h1, h2⟩ := hr; exact ⟨ps, h1, h2.mono fun v c ⟨p, a, b⟩ => ⟨p, k _ _ a, b⟩⟩
  | mp id => obtain ⟨p, h1, h2⟩ := hr; exact ⟨p, k _ _ h1, h2⟩
  | any => trivial

/-- A component of a tuple, and whatever is one value or several cells. -/
def RG (M : Mem) (β : Bet) (val : Value) (x : Bool × List C) : Prop :=
  if x.1 then ∃ vs : List Value, val = .agg vs.toArray ∧ All2 (RC M β) vs x.2 else ∃ c, x.2 = [c] ∧ RC M β val c

/-- What a temporary holds. -/
def RV (M : Mem) (β : Bet) : Value → V → Prop
  | val, .c x => RC M β val x
  | val, .agg cs => ∃ vs : List Value, val = .agg vs.toArray ∧ All2 (RC M β) vs cs
  | val, .tup xs => ∃ vs : List Value, val = .tuple vs.toArray ∧ All2 (RG M β) vs xs

theorem RG.mono {M M' : Mem} {β β' : Bet} (h : Mle M M') (k : Ble β β') {v : Value} {c : Bool × List C} (hr : RG M β v c) : RG M' β' v c := by
  unfold RG at *
  split
  · rename_i hb
    rw [if_pos hb] at hr
    obtain ⟨vs, h1, h2⟩ := hr
    exact ⟨vs, h1, h2.mono fun _ _ => RC.mono h k⟩
  · rename_i hb
    rw [if_neg hb] at hr
    obtain ⟨c, h1, h2⟩ := hr
    exact ⟨c, h1, RC.mono h k h2⟩

theorem RV.mono {M M' : Mem} {β β' : Bet} (h : Mle M M') (k : Ble β β') {v : Value} {x : V} (hr : RV M β v x) : RV M' β' v x := by
  cases x with
  | c x => exact RC.mono h k hr
  | agg cs => obtain ⟨vs, h1, h2⟩ := hr; exact ⟨vs, h1, h2.mono fun _ _ => RC.mono h k⟩
  | tup xs => obtain ⟨vs, h1, h2⟩ := hr; exact ⟨vs, h1, h2.mono fun _ _ => RG.mono h k⟩

/-- A value whose cells are trees. -/
def RVT (M : Mem) (agg : Bool) (val : Value) (ts : List T) : Prop :=
  if agg then ∃ vs : List Value, val = .agg vs.toArray ∧ All2 (RT M) vs ts else ∃ t, ts = [t] ∧ RT M val t
theorem RVT.mono {M M' : Mem} (h : Mle M M') {agg : Bool} {val : Value} {ts : List T} (hr : RVT M agg val ts) : RVT M' agg val ts := by
  unfold RVT at *
  split
  · rename_i hb
    rw [if_pos hb] at hr
    obtain ⟨vs, h1, h2⟩ := hr
    exact ⟨vs, h1, h2.mono fun _ _ => RT.mono h⟩
  · rename_i hb
    rw [if_neg hb] at hr
    obtain ⟨t, h1, h2⟩ := hr
    exact ⟨t, h1, RT.mono h h2⟩

/-- An entry of a map. -/
def REnt (M : Mem) (ka va : Bool) (m : MapEntry) (e : List T × List T) : Prop := RVT M ka m.key e.1 ∧ RVT M va m.val e.2

/-- A block. -/
def HB (M : Mem) (β : Bet) (w : World) (p : Nat × Nat) : Blk → Prop
  | .box cs => ∃ (full : List Value) (ty : TypeId), w.heap[p.1]? = some (.cells full.toArray ty (0, 0)) ∧ All2 (RC M β) full cs
  | .arr _ cs => ∃ (full : List Value) (ty : TypeId), w.heap[p.1]? = some (.cells full.toArray ty (0, 0)) ∧ full.length = p.2 ∧ RTs M full cs
  | .frz cs => ∃ mc, M p.1 = some mc ∧ RTs M mc cs
  | .map ka va es => ∃ (ents : List MapEntry) (clock : Nat), w.heap[p.1]? = some (.map ents.toArray clock) ∧ All2 (REnt M ka va) ents es
  | .gone => True

def Blk.live : Blk → Bool
  | .box _ | .arr _ _ | .map _ _ _ => true
  | _ => false

/-- What stays outside: blocks below a bound, blocks that stay as they are, numbers that are taken. -/
structure Fr where
  b : Nat
  X : Nat → Option Obj
  hi : Nat → Prop
  lo : Nat
  M0 : Mem

structure Inv (B : Fr) (w0 : World) (M : Mem) (β : Bet) (st : Tr Blk) (n : Nat) (w : World) : Prop where
  agree : ∀ b mc, M b = some mc → ∃ (full : List Value) (ty : TypeId) (fr : Nat × Nat), w.heap[b]? = some (.cells full.toArray ty fr) ∧ mc <+: full
  blk : ∀ id b, st.get id = some b → ∃ p, β id = some p ∧ HB M β w p b
  live : ∀ id b p, st.get id = some b → b.live = true → β id = some p → M p.1 = none ∧ B.b ≤ p.1 ∧ B.X p.1 = none
  apart : ∀ i j bi bj p q, st.get i = some bi → st.get j = some bj → bi.live = true → bj.live = true → β i = some p → β j = some q → i ≠ j → p.1 ≠ q.1
  low : ∀ id p, β id = some p → (B.lo ≤ id ∧ id < n) ∨ B.hi id
  lo : B.lo ≤ n
  below : Below B.b w0 w
  base : B.b ≤ w0.heap.size
  kept : ∀ q o, B.X q = some o → w.heap[q]? = some o
  old : ∀ b mc, M b = some mc → B.M0 b = some mc ∨ (B.b ≤ b ∧ B.X b = none)

/-- The temporaries. -/
def Rm (M : Mem) (β : Bet) (tm : Tr V) (tmps : Array Value) : Prop := ∀ i v, tm.get i = some v → RV M β (tmps.getD i undef) v ∧ i < tmps.size

end Go.Proofs.Sg
