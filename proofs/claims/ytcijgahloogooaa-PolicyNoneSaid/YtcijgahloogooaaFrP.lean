/- The frame, part P: regions that are run in the text's order. -/
import Derived.Test.YtcijgahloogooaaFrO
import Derived.Tactics
namespace Go.Proofs.Sg
open Go.RowKit

/-- What calls answer is so. -/
structure KOk (P : Program) (kk : K) : Prop where
  iso : ∀ f ts r nb, kk.iso f ts = some (r, nb) → Iso P f ts r nb
  run : ∀ f args st n v st' n', kk.run f args st n = some (v, st', n') → Shr P f args st n v st' n'

section
variable {tt : TT} {ins : Ins}
theorem slim_call {o : Op} {f : Nat} {xs : List Opd} (h : slimI tt o = some (.call f xs)) : ∃ c : Call, o = .call c ∧ c.callee = .value (.func f) ∧ slimOs c.args.toList = some xs := by
  cases o with
  | call c =>
    refine ⟨c, rfl, ?_⟩
    simp only [slimI] at h
    split at h
    · rename_i g hg
      obtain ⟨ys, h1, h2⟩ := map_some h
      obtain ⟨rfl, rfl⟩ : g = f ∧ ys = xs := by simpa using h2
      exact ⟨hg, h1⟩
    · split at h
      · cases h
      · cases h
    · repeat' (split at h)
      all_goals (cases h; done)
    · cases h
  | makeFunc f' a b => cases f' <;> (simp only [slimI] at h; repeat' (split at h)) <;> first | (cases h; done) | (obtain ⟨_, _, h2⟩ := map_some h; cases h2)
  | makeMap t r => cases r <;> (simp only [slimI] at h; repeat' (split at h)) <;> first | (cases h; done) | (obtain ⟨_, _, h2⟩ := map_some h; cases h2)
  | slice t x lo hi mx => cases mx <;> (simp only [slimI] at h; repeat' (split at h)) <;> first | (cases h; done) | (obtain ⟨_, _, h2⟩ := map_some h; cases h2)
  | _ => (simp only [slimI] at h; repeat' (split at h)) <;> first | (cases h; done) | (obtain ⟨_, _, h2⟩ := map_some h; cases h2)

theorem slim_callv {o : Op} {x' : Opd} {xs : List Opd} (h : slimI tt o = some (.callv x' xs)) : ∃ (c : Call) (x : Operand), o = .call c ∧ c.callee = .value x ∧ slimO x = some x' ∧ slimOs c.args.toList = some xs := by
  cases o with
  | call c =>
    refine ⟨c, ?_⟩
    simp only [slimI] at h
    split at h
    · obtain ⟨ys, h1, h2⟩ := map_some h
      cases h2
    · rename_i y hc hg
      split at h
      · rename_i z zs h1 h2
        obtain ⟨rfl, rfl⟩ : z = x' ∧ zs = xs := by simpa using h
        exact ⟨y, rfl, hg, h1, h2⟩
      · cases h
    · repeat' (split at h)
      all_goals (cases h; done)
    · cases h
  | makeFunc f' a b => cases f' <;> (simp only [slimI] at h; repeat' (split at h)) <;> first | (cases h; done) | (obtain ⟨_, _, h2⟩ := map_some h; cases h2)
  | makeMap t r => cases r <;> (simp only [slimI] at h; repeat' (split at h)) <;> first | (cases h; done) | (obtain ⟨_, _, h2⟩ := map_some h; cases h2)
  | slice t x lo hi mx => cases mx <;> (simp only [slimI] at h; repeat' (split at h)) <;> first | (cases h; done) | (obtain ⟨_, _, h2⟩ := map_some h; cases h2)
  | _ => (simp only [slimI] at h; repeat' (split at h)) <;> first | (cases h; done) | (obtain ⟨_, _, h2⟩ := map_some h; cases h2)
end

theorem easy_of {ins : Ins} (h : hard ins = false) : easy ins = true ∨ (∃ f xs, ins = .call f xs) ∨ ∃ x xs, ins = .callv x xs := by
  cases ins <;> first
    | (exact .inl rfl)
    | (cases h; done)
    | (exact .inr (.inl ⟨_, _, rfl⟩))
    | (exact .inr (.inr ⟨_, _, rfl⟩))

section
variable {P : Program} {tt : TT} {B : Fr} {w0 w : World} {M : Mem} {β : Bet} {kk : K} {a : Act} {s s' : S} {o : Oper} {nt : Nat}

theorem evOp_ok (htt : TTok P tt) (hk : KOk P kk) (hB : ∀ i, ¬ B.hi i) (hI : Inv B w0 M β s.st s.n w) (hrd : RD M β a s.rd) {ins : Ins} (hs : slimI tt o.op = some ins) (hz : hard ins = false) {v : V} {st' : Tr Blk} {n' : Nat}
    (he : evOp kk s ins = some (v, st', n')) : OpStep P B w0 M β st' n' v o a w := by
  rcases easy_of hz with hz | ⟨f, xs, rfl⟩ | ⟨x, xs, rfl⟩
  · have he' : (match evIns s.st.get s.n s.rd ins with
      | some (v, u, n) => some (v, putAll s.st u, n)
      | none => none) = some (v, st', n') := by
      cases ins <;> first | exact he | cases hz
    split at he'
    · rename_i v1 u1 n1 h1
      obtain ⟨rfl, rfl, rfl⟩ : v1 = v ∧ putAll s.st u1 = st' ∧ n1 = n' := by simpa using he'
      exact ins_ok htt hI (fun i _ _ => hB i) hrd hs hz h1
    · cases he'
  · obtain ⟨c, h1, h2, h3⟩ := slim_call hs
    simp only [evOp] at he
    split at he
    · exact op_call_shr hB hI hrd h1 h2 h3 (hk.run f) he
    · split at he
      · rename_i v1 u1 n1 h4
        obtain ⟨rfl, rfl, rfl⟩ : v1 = v ∧ putAll s.st u1 = st' ∧ n1 = n' := by simpa using he
        exact op_call hI (fun i _ _ => hB i) hrd h1 h2 h3 (hk.iso f) h4
      · cases he
  · obtain ⟨c, x', h1, h2, h3, h4⟩ := slim_callv hs
    simp only [evOp] at he
    split at he
    · rename_i f caps hx
      exact op_callv hB hI hrd h1 h2 h3 h4 hk.run he (.inl ⟨caps, hx, rfl⟩)
    · rename_i f caps hx
      exact op_callv hB hI hrd h1 h2 h3 h4 hk.run he (.inr ⟨caps, hx, rfl⟩)
    · cases he

/-- A slot is filled. -/
theorem rm_put {tm : Tr V} {a : Act} (h : Rm M β tm a.tmps) (hs : a.tmps.size = nt) {d : Option Nat} (hd : okDst nt d = true) {val : Value} {v : V} (hv : RV M β val v) :
    Rm M β (put tm d v) (a.put d val).tmps ∧ (a.put d val).tmps.size = nt ∧ (a.put d val).defers = a.defers := by
  cases d with
  | none => exact ⟨h, hs, rfl⟩
  | some d =>
    have hd' : d < nt := by simpa [okDst] using hd
    refine ⟨?_, by simp [Act.put, hs], rfl⟩
    intro i v' hi
    simp only [put, Tr.get_set] at hi
    simp only [Act.put]
    split at hi
    · rename_i e
      subst e
      obtain rfl : v = v' := by simpa using hi
      refine ⟨?_, by simp; omega⟩
      rw [show (a.tmps.setIfInBounds i val).getD i undef = val by simp [Array.getD_eq_getD_getElem?, hs, hd']]
      exact hv
    · rename_i e
      obtain ⟨h1, h2⟩ := h i v' hi
      refine ⟨?_, by simpa using h2⟩
      rw [show (a.tmps.setIfInBounds d val).getD i undef = a.tmps.getD i undef by simp [Array.getD_eq_getD_getElem?, Array.getElem?_setIfInBounds_ne (Ne.symm e)]]
      exact h1

theorem Rm.mono {tm : Tr V} {tmps : Array Value} {M' : Mem} {β' : Bet} (h : Rm M β tm tmps) (hM : Mle M M') (hβ : Ble β β') : Rm M' β' tm tmps := fun i v hi => ⟨(h i v hi).1.mono hM hβ, (h i v hi).2⟩

theorem slimOp_inv {ops : Array Oper} {x : Op1} (h : slimOp tt nt ops o = some x) : slimI tt o.op = some x.ins ∧ hard x.ins = false ∧ x.dst = o.dst ∧ okDst nt o.dst = true ∧
    (match o.guard with | none => x.guard = none | some (j, b) => ∃ t, dstOf ops j = some t ∧ x.guard = some (t, b)) := by
  unfold slimOp at h
  cases hi : slimI tt o.op with
  | none => rw [hi] at h; cases h
  | some i =>
    rw [hi] at h
    dsimp only at h
    by_cases hc : (!hard i && okDst nt o.dst) = true
    · rw [if_pos hc] at h
      simp only [Bool.and_eq_true, Bool.not_eq_true'] at hc
      split at h
      · rename_i hg
        obtain rfl : _ = x := by simpa using h
        exact ⟨rfl, hc.1, rfl, hc.2, by rw [hg]⟩
      · rename_i j b hg
        split at h
        · rename_i t ht
          obtain rfl : _ = x := by simpa using h
          exact ⟨rfl, hc.1, rfl, hc.2, by rw [hg]; exact ⟨t, ht, rfl⟩⟩
        · cases h
    · rw [if_neg hc] at h; cases h

theorem wanted_ok {ops : Array Oper} {x : Op1} (h : slimOp tt nt ops o = some x) (hr : Rm M β s.tm a.tmps) {b : Bool} (hw : wantedS s x.guard = some b) : Region.wanted o (yielded ops a.tmps) = b := by
  obtain ⟨_, _, _, _, hg⟩ := slimOp_inv h
  unfold Region.wanted
  cases hgo : o.guard with
  | none =>
    rw [hgo] at hg
    have hg' : x.guard = none := hg
    rw [hg'] at hw
    simpa [wantedS] using hw
  | some jb =>
    obtain ⟨j, want⟩ := jb
    rw [hgo] at hg
    obtain ⟨t, ht, hg'⟩ : ∃ t, dstOf ops j = some t ∧ x.guard = some (t, want) := hg
    rw [hg'] at hw
    simp only [wantedS] at hw
    split at hw
    · rename_i b' hb'
      obtain ⟨h1, h2⟩ := hr t _ hb'
      have h3 := (rv_v h1).1
      have hy : yielded ops a.tmps j = some b' := by
        unfold yielded
        have : (ops[j]?).bind (·.dst) = some t := ht
        rw [this]
        have hx : a.tmps[t]? = some (.bool b') := by
          rw [Array.getElem?_eq_getElem h2, ← h3]
          simp [Array.getD_eq_getD_getElem?, h2]
        simp [hx]
      simp only [hy]
      obtain rfl : (b' == want) = b := by simpa using hw
      cases b' <;> cases want <;> rfl
    · rename_i hb'
      obtain ⟨h1, h2⟩ := hr t _ hb'
      obtain ⟨vs, h3, h4⟩ := h1
      match vs, h4 with
      | [], _ =>
        have hy : yielded ops a.tmps j = none := by
          unfold yielded
          have : (ops[j]?).bind (·.dst) = some t := ht
          rw [this]
          have hx : a.tmps[t]? = some (.tuple #[]) := by
            rw [Array.getElem?_eq_getElem h2, ← h3]
            simp [Array.getD_eq_getD_getElem?, h2]
          simp [hx]
        simp only [hy]
        obtain rfl : false = b := by simpa using hw
        rfl
    · cases hw

theorem evOps_ok (htt : TTok P tt) (hk : KOk P kk) (hB : ∀ i, ¬ B.hi i) {ops : Array Oper} {Q : Exit → Act → World → Prop} : ∀ (os : List Oper) (xs : List Op1), slimOps tt nt ops os = some xs →
    ∀ (s s' : S) (M : Mem) (β : Bet) (a : Act) (w : World), Inv B w0 M β s.st s.n w → Rm M β s.tm a.tmps → a.tmps.size = nt → a.defers = [] → evOps kk xs s = some s' →
    (∀ a' w' M' β', Inv B w0 M' β' s'.st s'.n w' → Rm M' β' s'.tm a'.tmps → a'.tmps.size = nt → a'.defers = [] → Mle M M' → Ble β β' → Q .normal a' w') → wpList P ops Q os a w
  | [], xs, h, s, s', M, β, a, w, hI, hr, hs, hd, he, hQ => by
    obtain rfl : [] = xs := by simpa [slimOps] using h
    obtain rfl : s = s' := by simpa [evOps] using he
    exact hQ a w M β hI hr hs hd (Mle.refl _) (Ble.refl _)
  | o :: os, xs, h, s, s', M, β, a, w, hI, hr, hs, hd, he, hQ => by
    simp only [slimOps] at h
    split at h
    · rename_i x ys hx hys
      obtain rfl : x :: ys = xs := by simpa using h
      obtain ⟨h1, h2, h3, h4, _⟩ := slimOp_inv hx
      refine wpList_step fun K hK => ?_
      simp only [evOps] at he
      split at he
      · cases he
      · rename_i hw
        rw [wanted_ok hx hr hw, if_neg (by simp)]
        obtain ⟨r1, r2, r3⟩ := rm_put (M := M) (β := β) (v := .tup []) (val := undef) hr hs h4 ⟨[], rfl, trivial⟩
        rw [h3] at he
        refine hK _ _ (evOps_ok htt hk hB os ys hys { s with tm := put s.tm o.dst (.tup []) } s' M β _ w hI r1 r2 (by rw [r3]; exact hd) he hQ)
      · rename_i hw
        rw [wanted_ok hx hr hw, if_pos rfl]
        split at he
        · cases he
        · rename_i v st' n' hev
          refine evOp_ok htt hk hB hI (rd_ok hr) h1 h2 hev K Q fun val w' M' β' hI' hv hM hβ => ?_
          obtain ⟨r1, r2, r3⟩ := rm_put (hr.mono hM hβ) hs h4 hv
          rw [h3] at he
          exact hK _ _ (evOps_ok htt hk hB os ys hys _ s' M' β' _ w' hI' r1 r2 (by rw [r3]; exact hd) he fun a' w'' M'' β'' a1 a2 a3 a4 a5 a6 => hQ a' w'' M'' β'' a1 a2 a3 a4 (hM.trans a5) (hβ.trans a6))
    · cases h
end
end Go.Proofs.Sg
