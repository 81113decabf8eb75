/- The frame, part Q: what regions that run in any order are checked for; trees that are written in any order. -/
import Derived.Test.YtcijgahloogooaaFrP
import Derived.Orders
namespace Go.Proofs.Sg
open Go.RowKit

/-! ### Static -/
/-- The operations that an operation waits for. -/
def ons (o : Oper) : List Nat := (o.after.toList.filter (Region.binds .any)).map (·.on)

def befores : List Oper → List Nat → List Nat
  | [], acc => acc
  | o :: os, acc => befores os (acc ++ [(ons o).foldl (fun m j => m ||| (1 <<< j) ||| acc.getD j 0) 0])

def bfAt (bs : List Nat) (i j : Nat) : Bool := (bs.getD i 0).testBit j

def Op1.looks (x : Op1) : List Nat := (x.ins.opds.filterMap fun | .t i => some i | _ => none) ++ (match x.guard with | some (t, _) => [t] | none => [])

def apart1 (x y : Op1) : Bool :=
  (match x.dst with
   | some d => !(y.looks.contains d) && y.dst != some d
   | none => true) &&
  (match y.dst with
   | some d => !(x.looks.contains d)
   | none => true)

def quiet (x y : Ins) : Bool := (!x.writes && !y.writes) || (!x.reads && !x.writes) || (!y.reads && !y.writes)

def pairOk (bs : List Nat) (i j : Nat) (oi : Oper) (xi xj : Op1 × List Nat × Bool) : Bool :=
  if bfAt bs i j then (ons oi).any fun e => e == j || (decide (j < e) && bfAt bs e j)
  else apart1 xj.1 xi.1 && (quiet xj.1.ins xi.1.ins || (xi.2.1.contains j && xj.2.2))

def drwOk (ops : Array Oper) (xs : List (Op1 × List Nat × Bool)) (bs : List Nat) : Bool :=
  (List.range ops.size).all fun i => match ops[i]?, xs[i]? with
    | some oi, some xi => (ons oi).all (fun e => decide (e < i)) && (List.range i).all fun j => match xs[j]? with
        | some xj => pairOk bs i j oi xi xj
        | none => false
    | _, _ => false

def chkOf (bs : List Nat) (l : List Op1) (i : Nat) (x : Op1) : List Nat :=
  (List.range i).filter fun j => !bfAt bs i j && match l[j]? with
    | some y => !quiet y.ins x.ins
    | none => false

def plan (chks : List (List Nat)) : List Op1 → Nat → List (Op1 × List Nat × Bool)
  | [], _ => []
  | x :: xs, i => (x, chks.getD i [], chks.any fun c => c.contains i) :: plan chks xs (i + 1)

def chksOf (bs : List Nat) (l : List Op1) : List Op1 → Nat → List (List Nat)
  | [], _ => []
  | x :: xs, i => chkOf bs l i x :: chksOf bs l xs (i + 1)

def slimDrw (tt : TT) (nt : Nat) (ops : Array Oper) : Option (List (Op1 × List Nat × Bool)) :=
  match slimOps tt nt ops ops.toList with
  | none => none
  | some l =>
    if drwOk ops (plan (chksOf (befores ops.toList []) l l 0) l 0) (befores ops.toList []) then some (plan (chksOf (befores ops.toList []) l l 0) l 0) else none

theorem plan_map (chks : List (List Nat)) : ∀ (l : List Op1) (i : Nat), (plan chks l i).map (·.1) = l
  | [], _ => rfl
  | x :: xs, i => by simp [plan, plan_map chks xs (i + 1)]

/-! ### Trees -/
def Tr.mask {α : Type} : (Nat → Bool) → Tr α → Tr α
  | _, .leaf => .leaf
  | p, .node x l r => .node (if p 0 then none else x) (Tr.mask (fun i => p (2 * i + 1)) l) (Tr.mask (fun i => p (2 * i + 2)) r)

theorem Tr.get_mask {α : Type} : ∀ (t : Tr α) (p : Nat → Bool) (i : Nat), (t.mask p).get i = if p i then none else t.get i
  | .leaf, p, i => by simp [Tr.mask, Tr.get]
  | .node x l r, p, i => by
    unfold Tr.mask Tr.get
    by_cases h0 : i = 0
    · subst h0; simp
    · rw [if_neg h0, if_neg h0]
      by_cases h1 : i % 2 = 1
      · rw [if_pos h1, if_pos h1, Tr.get_mask l, show 2 * (i / 2) + 1 = i by omega]
      · rw [if_neg h1, if_neg h1, Tr.get_mask r, show 2 * ((i - 1) / 2) + 2 = i by omega]

def putG {α : Type} (t : Tr α) : List (Nat × α) → Tr α
  | [] => t
  | (i, b) :: u => putG (t.set i b) u

theorem putAll_G (st : Tr Blk) : ∀ u, putAll st u = putG st u
  | [] => rfl
  | (i, b) :: u => putAll_G (st.set i b) u

def upd1 (d : Option Nat) (v : V) : List (Nat × V) := match d with
  | some i => [(i, v)]
  | none => []
theorem put_G (tm : Tr V) (d : Option Nat) (v : V) : put tm d v = putG tm (upd1 d v) := by cases d <;> rfl

section
variable {α : Type}
def keys (u : List (Nat × α)) : List Nat := u.map (·.1)

theorem putG_ne : ∀ (u : List (Nat × α)) (t : Tr α) (i : Nat), i ∉ keys u → (putG t u).get i = t.get i
  | [], _, _, _ => rfl
  | (j, b) :: u, t, i, h => by
    have h' : i ≠ j ∧ i ∉ keys u := by simpa [keys] using h
    rw [putG, putG_ne u _ i h'.2, Tr.get_set, if_neg h'.1]

/-- Where a write stands, what was there does not count. -/
theorem putG_at : ∀ (u : List (Nat × α)) (t t' : Tr α) (i : Nat), (i ∉ keys u → t.get i = t'.get i) → (putG t u).get i = (putG t' u).get i
  | [], t, t', i, h => h (by simp [keys])
  | (j, b) :: u, t, t', i, h => by
    simp only [putG]
    refine putG_at u _ _ i fun hi => ?_
    rw [Tr.get_set, Tr.get_set]
    split
    · rfl
    · rename_i hne
      exact h (by simp only [keys, List.map_cons, List.mem_cons, not_or]; exact ⟨hne, hi⟩)

/-- Some of the writes, in the text's order. -/
def ov : List (List (Nat × α)) → (Nat → Bool) → Tr α → Tr α
  | [], _, t => t
  | u :: us, L, t => ov us (fun i => L (i + 1)) (if L 0 then putG t u else t)

theorem ov_congr : ∀ (us : List (List (Nat × α))) (L L' : Nat → Bool) (t t' : Tr α) (id : Nat), (∀ i u, us[i]? = some u → id ∈ keys u → L i = L' i) → t.get id = t'.get id → (ov us L t).get id = (ov us L' t').get id
  | [], _, _, _, _, _, _, h => h
  | u :: us, L, L', t, t', id, hL, h => by
    simp only [ov]
    refine ov_congr us _ _ _ _ id (fun i u' hi => hL (i + 1) u' (by simpa using hi)) ?_
    by_cases hk : id ∈ keys u
    · rw [hL 0 u (by simp) hk]
      split
      · exact putG_at u _ _ id fun hn => absurd hk hn
      · exact h
    · have e : ∀ (b : Bool) (x : Tr α), (if b then putG x u else x).get id = x.get id := fun b x => by
        cases b
        · rfl
        · exact putG_ne u x id hk
      rw [e, e]
      exact h

/-- A write that no later one touches may as well be the last. -/
theorem ov_last : ∀ (us : List (List (Nat × α))) (L : Nat → Bool) (t : Tr α) (u : List (Nat × α)) (id : Nat), (∀ i u', us[i]? = some u' → L i = true → id ∈ keys u → id ∉ keys u') → (ov us L (putG t u)).get id = (putG (ov us L t) u).get id := by
  intro us L t u id h
  by_cases hk : id ∈ keys u
  · have h1 : ∀ (us : List (List (Nat × α))) (L : Nat → Bool) (t : Tr α), (∀ i u', us[i]? = some u' → L i = true → id ∉ keys u') → (ov us L t).get id = t.get id := by
      intro us
      induction us with
      | nil => intro L t _; rfl
      | cons v vs ih =>
        intro L t hh
        simp only [ov]
        rw [ih _ _ fun i u' hi hl => hh (i + 1) u' (by simpa using hi) hl]
        split
        · rename_i h0; exact putG_ne v t id (hh 0 v (by simp) h0)
        · rfl
    rw [h1 us L _ fun i u' hi hl => h i u' hi hl hk]
    exact putG_at u _ _ id fun hn => absurd hk hn
  · rw [putG_ne u _ id hk]
    exact ov_congr us L L _ _ id (fun _ _ _ _ => rfl) (putG_ne u t id hk)

/-- One write more. -/
theorem ov_add : ∀ (us : List (List (Nat × α))) (L L' : Nat → Bool) (t : Tr α) (i : Nat) (u : List (Nat × α)) (id : Nat), us[i]? = some u → L i = false → L' i = true → (∀ j, j ≠ i → L' j = L j) →
    (∀ j u', i < j → us[j]? = some u' → L j = true → id ∈ keys u → id ∉ keys u') → (ov us L' t).get id = (putG (ov us L t) u).get id
  | [], _, _, _, _, _, _, hu, _, _, _, _ => by simp at hu
  | v :: vs, L, L', t, 0, u, id, hu, h0, h1, hne, hk => by
    obtain rfl : v = u := by simpa using hu
    simp only [ov, h0, h1, if_true, if_false, Bool.false_eq_true]
    rw [← ov_last vs (fun i => L (i + 1)) t v id fun i u' hi hl hk' => hk (i + 1) u' (by omega) (by simpa using hi) hl hk']
    exact ov_congr vs _ _ _ _ id (fun i _ _ _ => hne (i + 1) (by omega)) rfl
  | v :: vs, L, L', t, i + 1, u, id, hu, h0, h1, hne, hk => by
    simp only [ov]
    rw [hne 0 (by omega)]
    exact ov_add vs _ _ _ i u id (by simpa using hu) h0 h1 (fun j hj => hne (j + 1) (by omega)) (fun j u' hj hu' => hk (j + 1) u' (by omega) (by simpa using hu'))
end

/-! ### The text's run -/
structure Ev where
  w : Bool
  v : V
  u : List (Nat × Blk)
  n : Nat

def stepE (x : Op1) (e : Ev) (s : S) : S := { tm := put s.tm x.dst e.v, st := putAll s.st e.u, n := e.n }

def sAt : List (Op1 × List Nat × Bool) → List Ev → S → Nat → S
  | x :: xs, e :: es, s, i + 1 => sAt xs es (stepE x.1 e s) i
  | _, _, s, _ => s

/-- What an operation's part in the run is. -/
def OpFact (kk : K) (s : S) (x : Op1) (e : Ev) : Prop :=
  wantedS s x.guard = some e.w ∧ s.n ≤ e.n ∧ (∀ p ∈ e.u, p.1 < e.n) ∧
    if e.w then evOpU kk s x.ins = some (e.v, e.u, e.n) else e.v = .tup [] ∧ e.u = [] ∧ e.n = s.n

def footE (s : S) (i : Nat) (x : Op1) (e : Ev) : Foot := footOf s i x.ins e.u

def Trace (kk : K) (xs : List (Op1 × List Nat × Bool)) (k : Nat) (fs : List Foot) (s s' : S) : Prop :=
  ∃ es : List Ev, es.length = xs.length ∧ sAt xs es s xs.length = s' ∧
    (∀ i x e, xs[i]? = some x → es[i]? = some e → OpFact kk (sAt xs es s i) x.1 e) ∧
    (∀ i x e, xs[i]? = some x → es[i]? = some e → e.w = true → ∀ j ∈ x.2.1, ∀ g ∈ fs, g.j = j → (footE (sAt xs es s i) (k + i) x.1 e).free g = true) ∧
    (∀ i i' x x' e e', i' < i → xs[i]? = some x → es[i]? = some e → xs[i']? = some x' → es[i']? = some e' → e.w = true → e'.w = true → x'.2.2 = true → (k + i') ∈ x.2.1 → (footE (sAt xs es s i) (k + i) x.1 e).free (footE (sAt xs es s i') (k + i') x'.1 e') = true)

theorem evDrw_trace (kk : K) : ∀ (xs : List (Op1 × List Nat × Bool)) (k : Nat) (fs : List Foot) (s s' : S), evDrw kk k xs fs s = some s' → Trace kk xs k fs s s'
  | [], k, fs, s, s', h => by
    obtain rfl : s = s' := by simpa [evDrw] using h
    exact ⟨[], rfl, rfl, by simp, by simp, by simp⟩
  | (o, chk, rc) :: xs, k, fs, s, s', h => by
    have done : ∀ (e : Ev) (fs' : List Foot), (∀ g ∈ fs, g ∈ fs') → (rc = true → e.w = true → footE s k o e ∈ fs') → OpFact kk s o e → (e.w = true → ∀ j ∈ chk, ∀ g ∈ fs, g.j = j → (footE s k o e).free g = true) → evDrw kk (k + 1) xs fs' (stepE o e s) = some s' → Trace kk ((o, chk, rc) :: xs) k fs s s' := by
      intro e fs' hfs hrc hf hfree hrest
      obtain ⟨es, a1, a2, a3, a4, a5⟩ := evDrw_trace kk xs (k + 1) fs' _ s' hrest
      refine ⟨e :: es, by simp [a1], a2, ?_, ?_, ?_⟩
      · intro i x e' hx he
        cases i with
        | zero =>
          obtain rfl : (o, chk, rc) = x := by simpa using hx
          obtain rfl : e = e' := by simpa using he
          exact hf
        | succ i => exact a3 i x e' (by simpa using hx) (by simpa using he)
      · intro i x e' hx he hw j hj g hg hgj
        cases i with
        | zero =>
          obtain rfl : (o, chk, rc) = x := by simpa using hx
          obtain rfl : e = e' := by simpa using he
          exact hfree hw j hj g hg hgj
        | succ i =>
          have := a4 i x e' (by simpa using hx) (by simpa using he) hw j hj g (hfs g hg) hgj
          rw [show k + 1 + i = k + (i + 1) by omega] at this
          exact this
      · intro i i' x x' e1 e2 hlt hx he hx' he' hw hw' hr hj
        cases i with
        | zero => omega
        | succ i =>
          cases i' with
          | zero =>
            obtain rfl : (o, chk, rc) = x' := by simpa using hx'
            obtain rfl : e = e2 := by simpa using he'
            have := a4 i x e1 (by simpa using hx) (by simpa using he) hw k (by simpa using hj) _ (hrc hr hw') rfl
            rw [show k + 1 + i = k + (i + 1) by omega] at this
            exact this
          | succ i' =>
            have := a5 i i' x x' e1 e2 (by omega) (by simpa using hx) (by simpa using he) (by simpa using hx') (by simpa using he') hw hw' hr (by rw [show k + 1 + i' = k + (i' + 1) by omega]; exact hj)
            rw [show k + 1 + i = k + (i + 1) by omega, show k + 1 + i' = k + (i' + 1) by omega] at this
            exact this
    simp only [evDrw] at h
    split at h
    · cases h
    · rename_i hw
      refine done ⟨false, .tup [], [], s.n⟩ fs (fun _ h => h) (fun _ h => by cases h) ⟨hw, Nat.le_refl _, by simp, by simp⟩ (fun h => by cases h) ?_
      exact h
    · rename_i hw
      split at h
      · cases h
      · rename_i v u n hev
        split at h
        · rename_i hc
          simp only [Bool.and_eq_true, decide_eq_true_eq] at hc
          obtain ⟨⟨hc1, hc2⟩, hc3⟩ := hc
          refine done ⟨true, v, u, n⟩ (if rc then footOf s k o.ins u :: fs else fs) ?_ ?_ ⟨hw, hc3, ?_, ?_⟩ ?_ h
          · intro g hg; split
            · exact List.mem_cons_of_mem _ hg
            · exact hg
          · intro hr _; rw [if_pos hr]; exact List.mem_cons_self
          · intro p hp
            have := List.all_eq_true.1 hc2 p hp
            simpa using this
          · rw [if_pos rfl]; exact hev
          · intro _ j hj g hg hgj
            have h1 := List.all_eq_true.1 (List.all_eq_true.1 hc1 j hj) g hg
            rw [hgj] at h1
            have h2 : (footOf s k o.ins u).free g = true := by simpa using h1
            exact h2
        · cases h
end Go.Proofs.Sg
